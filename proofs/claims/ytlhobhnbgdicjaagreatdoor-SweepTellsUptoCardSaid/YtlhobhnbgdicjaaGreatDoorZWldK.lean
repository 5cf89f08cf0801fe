/- Worlds in memory. No condition. -/
import Derived.Maps.RangeWalk
import Derived.Test.YtlhobhnbgdicjaaGreatDoorZWld1
import Derived.Test.YtlhobhnbgdicjaaGreatDoorZOwn
import Derived.Carry
import Derived.Test.YtlhobhnbgdicjaaGreatDoorZErrV
import Derived.Test.YtlhobhnbgdicjaaGreatDoorZCls6
import Derived.Sort.Grow
import Derived.Sort.EncStr
import Derived.Test.YtlhobhnbgdicjaaGreatDoorZGrow
import Derived.Test.YtlhobhnbgdicjaaGreatDoorZLawG
import Derived.Test.YtlhobhnbgdicjaaGreatDoorZDesc7
import Derived.Laws.BitsLemmas
import Derived.Laws.CopyOwn
import Derived.Laws.CopyRow
set_option linter.unusedSimpArgs false
set_option linter.unusedVariables false
namespace Go.Proofs.YtlhobhnbgdicjaaGreatDoor.worlds
open Go.RowKit lib maps classes
def strKey : KeyEnc ByteArray where
 d := .string
 kv := .string
 isKey := fun _ => trivial
 same := fun a b => by
  simp only [Instr.sameNow]
  congr 1
  rw [Bool.eq_iff_iff, MapKept.bytes_beq]
  simp
 bits := fun a => by
  have := (MapKept.bytes_beq a a).2 rfl
  simp [Instr.sameBits, this]
def wv (W : WL) : List (ByteArray × Value) := W.map fun p => (p.1, .agg p.2.cells.toArray)
structure WAt (w : World) (b : Nat) (W : WL) : Prop where
 map : MapIs strKey w b (wv W)
 cls : ∀ p ∈ W, p.2.At w
theorem WAt.lt {w : World} {b : Nat} {W : WL} (h : WAt w b W) : b < w.heap.size := by
 obtain ⟨es, c, h1, _⟩ := h.map
 exact (Array.getElem?_eq_some_iff.1 h1).1
theorem WAt.below {w w' : World} {b : Nat} {W : WL} (h : WAt w b W) (hb : Below w.heap.size w w') : WAt w' b W :=
 ⟨map_keep strKey h.map (hb.block b h.lt), fun p hp => (h.cls p hp).below hb⟩
theorem zero_cls (w : World) : (zeroValue 74).run Tryz.prog w = .ok (.agg zeroC.cells.toArray) w := by kernel_rfl
theorem wv_get (W : WL) (x : ByteArray) : (getK (wv W) x).getD (.agg zeroC.cells.toArray) = .agg (cAt W x).cells.toArray ∧ (getK (wv W) x).isSome = (getK W x).isSome := by
 unfold wv cAt
 rw [getK_map (fun c : CV => Value.agg c.cells.toArray)]
 cases getK W x <;> exact ⟨rfl, rfl⟩
theorem world_look {w : World} {b : Nat} {W : WL} (h : WAt w b W) (x : ByteArray) : (Instr.lookup 65 (.map (some b)) (.string x) false).run Tryz.prog w = .ok (.agg (cAt W x).cells.toArray) w := by
 have := run_look (P := Tryz.prog) (E := strKey) Tryz.underlying65 Tryz.underlying9 h.map x (zero_cls w)
 rw [show strKey.kv x = .string x from rfl] at this
 rw [this, (wv_get W x).1]
theorem world_look_ok {w : World} {b : Nat} {W : WL} (h : WAt w b W) (x : ByteArray) : (Instr.lookup 65 (.map (some b)) (.string x) true).run Tryz.prog w = .ok (.tuple #[.agg (cAt W x).cells.toArray, .bool (getK W x).isSome]) w := by
 have := run_look_ok (P := Tryz.prog) (E := strKey) Tryz.underlying65 Tryz.underlying9 h.map x (zero_cls w)
 rw [show strKey.kv x = .string x from rfl] at this
 rw [this, (wv_get W x).1, (wv_get W x).2]
theorem wv_set (W : WL) (x : ByteArray) (c : CV) : setK (wv W) x (.agg c.cells.toArray) = wv (setK W x c) := setK_map (fun c : CV => Value.agg c.cells.toArray) W x c
theorem mem_set {α : Type} {l : List (ByteArray × α)} {k : ByteArray} {v : α} {p : ByteArray × α} (h : p ∈ setK l k v) : p ∈ l ∨ p = (k, v) := by
 induction l with
 | nil => exact .inr (List.mem_singleton.1 h)
 | cons x r ih =>
  obtain ⟨j, u⟩ := x
  simp only [setK] at h
  split at h
  ·rcases List.mem_cons.1 h with h | h
   ·exact .inr h
   ·exact .inl (List.mem_cons_of_mem _ h)
  ·rcases List.mem_cons.1 h with h | h
   ·exact .inl (h ▸ List.mem_cons_self ..)
   ·exact (ih h).imp_left (List.mem_cons_of_mem _)
theorem world_set {n : Nat} {w0 w : World} {b : Nat} {W : WL} (h : WAt w b W) (hb0 : Below n w0 w) (hn : n ≤ b) (hw : n ≤ w0.heap.size) (x : ByteArray) (c : CV) (hc : c.At w0) (hall : ∀ p ∈ W, p.2.At w0) (hnw : n = w0.heap.size) :
  ∃ w', (Instr.mapUpdate 65 (.map (some b)) (.string x) (.agg c.cells.toArray)).run Tryz.prog w = .ok () w' ∧ WAt w' b (setK W x c) ∧ Below n w0 w' := by
 obtain ⟨w', h1, h2, h3⟩ := run_update (P := Tryz.prog) (E := strKey) Tryz.underlying65 Tryz.underlying9 h.map x (.agg c.cells.toArray)
 have hb : Below n w0 w' := hb0.trans ⟨h3.os, h3.tape, h3.output, h3.size, fun k hk => h3.block k (Nat.lt_of_lt_of_le hk (Nat.le_trans hw hb0.size)) (fun e => by have := Option.some.inj e; omega)⟩
 refine ⟨w', h1, ⟨by rw [← wv_set]; exact h2, fun p hp => ?_⟩, hb⟩
 subst hnw
 rcases mem_set hp with hp | rfl
 ·exact (hall p hp).below hb
 ·exact hc.below hb
end Go.Proofs.YtlhobhnbgdicjaaGreatDoor.worlds
namespace Go.Proofs.YtlhobhnbgdicjaaGreatDoor.worlds
open Go.RowKit lib maps classes errs
theorem slN (w : World) (n : Nat) : Sl w (.slice none 0 0) 0 n [] := ⟨by simp, _, _, rfl, Nat.le_refl _, .inl rfl⟩
theorem obj_at (w : World) : objC.At w := ⟨slN w 1, slN w 2, slN w 8, fun m hm => (List.not_mem_nil hm).elim⟩
theorem flt_at (w : World) : fltC.At w := ⟨slN w 1, slN w 2, slN w 8, fun m hm => (List.not_mem_nil hm).elim⟩
theorem zero_at (w : World) : zeroC.At w := ⟨slN w 1, slN w 2, slN w 8, fun m hm => (List.not_mem_nil hm).elim⟩
theorem WAt.at_ {w : World} {b : Nat} {W : WL} (h : WAt w b W) (n : ByteArray) : (cAt W n).At w := by
 unfold cAt
 cases hg : getK W n with
 | none => exact zero_at w
 | some c => exact h.cls _ (getK_mem hg)
set_option maxRecDepth 100000 in
set_option maxHeartbeats 4000000 in
theorem first_any (w : World) : Calls Tryz.prog 44 #[] w fun e w' => e = .returned (.map (some w.heap.size)) ∧ WAt w' w.heap.size firstW ∧ Below w.heap.size w w' := by
 have hmm := @run_makeMap Tryz.prog
 have M0 : WAt (w.alloc (.map #[] 0)) w.heap.size [] := ⟨⟨#[], 0, heap_alloc_new _ _, rfl⟩, fun p hp => (List.not_mem_nil hp).elim⟩
 have B0 : Below w.heap.size w (w.alloc (.map #[] 0)) := ext_alloc _ _
 obtain ⟨u1, r1, m1, b1⟩ := world_set M0 B0 (Nat.le_refl _) (Nat.le_refl _) objB objC (obj_at w) (fun p hp => (List.not_mem_nil hp).elim) rfl
 obtain ⟨u2, r2, m2, b2⟩ := world_set m1 b1 (Nat.le_refl _) (Nat.le_refl _) fltB fltC (flt_at w) (fun p hp => by
  obtain rfl := List.mem_singleton.1 (show p ∈ [(objB, objC)] from hp)
  exact obj_at w) rfl
 have HM : Hid (WAt u2 w.heap.size firstW) := hid (by
  have : setK (setK [] objB objC) fltB fltC = firstW := by simp [setK, firstW, (Ne.symm obj_flt)]
  rw [← this]; exact m2)
 have HB := hid b2
 have r1' : (Instr.mapUpdate 65 (.map (some w.heap.size)) (.string { data := #[79, 98, 106, 101, 99, 116] }) (.agg #[.string { data := #[79, 98, 106, 101, 99, 116] }, .string { data := #[] }, .slice none 0 0, .bool false, .slice none 0 0, .slice none 0 0])).run Tryz.prog (w.alloc (.map #[] 0)) = .ok () u1 := r1
 have r2' : (Instr.mapUpdate 65 (.map (some w.heap.size)) (.string { data := #[70, 97, 117, 108, 116] }) (.agg #[.string { data := #[70, 97, 117, 108, 116] }, .string { data := #[79, 98, 106, 101, 99, 116] }, .slice none 0 0, .bool false, .slice none 0 0, .slice none 0 0])).run Tryz.prog u1 = .ok () u2 := r2
 clear m1 m2 b1 b2 M0 B0 r1 r2
 go_enter Tryz.func44, Tryz.ntmps44
 go_wp2_with fail
 go_ret
 exact ⟨rfl, HM.out, HB.out⟩
theorem cls_vals {c : CV} {w : World} (h : c.At w) : ∃ a1 c1 a2 c2 a3 c3, c.vf = .slice a1 c.faces.length c1 ∧ c.vd = .slice a2 c.fields.length c2 ∧ c.vm = .slice a3 c.mets.length c3 := by
 obtain ⟨a1, c1, h1⟩ := h.faces.val
 obtain ⟨a2, c2, h2⟩ := h.fields.val
 obtain ⟨a3, c3, h3⟩ := h.mets.sl.val
 exact ⟨a1, c1, a2, c2, a3, c3, h1, h2, h3⟩
theorem noB_iff (s : ByteArray) : s = noB ↔ s.toList = [] := by
 rw [ByteArray.toList_eq]
 constructor
 ·rintro rfl; rfl
 ·intro h
  cases s with
  | mk d =>
   have : d = #[] := by simpa using h
   subst this; rfl
theorem out_one {w0 W : World} (h : Below w0.heap.size w0 W) (e : TypeId) (q : Value) : Out w0 (W.alloc (.cells #[q] e)) e 1 (.slice (some ⟨W.heap.size, 0, none⟩) 1 1) 1 [q] :=
 ⟨⟨rfl, .inr ⟨W.heap.size, 1, #[q], rfl, h.size, heap_alloc_new _ _, Nat.le_refl _, by unfold maxLen; omega, rfl, rfl⟩⟩, h.alloc h.size _⟩
theorem infoS : (Tryz.prog.info? 9).map (fun i => (i.zero, i.size, i.bytes)) = some (some (.string { data := #[] }), 1, 16) := by kernel_rfl
set_option maxRecDepth 100000 in
set_option maxHeartbeats 4000000 in
theorem above_any (W : WL) (b : Nat) (n : ByteArray) (w : World) (hW : WAt w b W) (hs : (cAt W n).faces.length ≤ 1048576) :
  Calls Tryz.prog 64 #[.map (some b), .string n] w fun e w' => ∃ v, e = .returned v ∧ Sl w' v (above W n).length 1 ((above W n).map .string) ∧ Below w.heap.size w w' ∧ (v = (cAt W n).vf ∨ ∀ g, v.ownBlock = some g → w.heap.size ≤ g) := by
 have hlk := world_look hW n
 have hat := hW.at_ n
 unfold above
 obtain ⟨⟨nm, sup, vf, face, vd, vm, faces, fields, mets⟩, hc⟩ : ∃ c, cAt W n = c := ⟨_, rfl⟩
 rw [hc] at hlk hat hs ⊢
 obtain ⟨a1, c1, a2, c2, a3, c3, e1, e2, e3⟩ := cls_vals hat
 simp only at e1 e2 e3 hs
 subst e1 e2 e3
 simp only [CV.cells] at hlk
 have HF : Hid (Sl w (.slice a1 faces.length c1) faces.length 1 (faces.map .string)) := hid hat.faces
 clear hat hc hW
 by_cases h0 : sup = noB
 ·have hA : aboveC ⟨nm, sup, .slice a1 faces.length c1, face, .slice a2 fields.length c2, .slice a3 mets.length c3, faces, fields, mets⟩ = faces := if_pos h0
  rw [hA]
  have h1 := (noB_iff sup).1 h0
  have h2 : (sup.toList == []) = true := by rw [h1]; rfl
  clear hA h0
  go_enter Tryz.func64, Tryz.ntmps64
  go_wp2
  go_ret
  exact ⟨_, rfl, HF.out.below (ext_alloc _ _), ext_alloc _ _, .inl rfl⟩
 ·have hA : aboveC ⟨nm, sup, .slice a1 faces.length c1, face, .slice a2 fields.length c2, .slice a3 mets.length c3, faces, fields, mets⟩ = sup :: faces := if_neg h0
  rw [hA]
  have h1 : ¬ sup.toList = [] := fun h => h0 ((noB_iff sup).2 h)
  have h2 : (sup.toList == []) = false := beq_eq_false_iff_ne.2 h1
  clear hA h0
  go_enter Tryz.func64, Tryz.ntmps64
  obtain ⟨W1, hW1⟩ : ∃ W1, w.alloc (.cells #[.string nm, .string sup, .slice a1 faces.length c1, .bool face, .slice a2 fields.length c2, .slice a3 mets.length c3] 74) = W1 := ⟨_, rfl⟩
  have HB1 : Hid (Below w.heap.size w W1) := hid (hW1 ▸ ext_alloc _ _)
  have hlt : w.heap.size < W1.heap.size := by rw [← hW1]; simp
  have HR1 : Hid (W1.heap[w.heap.size]? = some (.cells #[.string nm, .string sup, .slice a1 faces.length c1, .bool face, .slice a2 fields.length c2, .slice a3 mets.length c3] 74 (0, 0))) := hid (hW1 ▸ heap_alloc_new _ _)
  have k1 : W1.cell? ⟨w.heap.size, 1, none⟩ = some (.string sup) := by rw [cell_of_row _ _ _ _ _ _ HR1.out]; rfl
  have k2 : W1.cell? ⟨w.heap.size, 2, none⟩ = some (.slice a1 faces.length c1) := by rw [cell_of_row _ _ _ _ _ _ HR1.out]; rfl
  have HO1 : Hid (Out w (W1.alloc (.cells #[.string sup] 9)) 9 1 (.slice (some ⟨W1.heap.size, 0, none⟩) 1 1) 1 [.string sup]) := hid (out_one HB1.out 9 (.string sup))
  have HF1 : Hid (Sl (W1.alloc (.cells #[.string sup] 9)) (.slice a1 faces.length c1) faces.length 1 (faces.map .string)) := hid (HF.out.below (HB1.out.alloc HB1.out.size _))
  have HO : Hid (∀ u ∈ faces.map Value.string, u.oneCell' = true) := hid (fun u hu => by obtain ⟨y, _, rfl⟩ := List.mem_map.1 hu; rfl)
  go_wp2_with (at_builtin; refine wpList_append_src_at w _ rfl _ _ 58 rfl 9 (.string { data := #[] }) 1 16 faces.length Tryz.underlying58 infoS rfl (by decide) _ _ _ HO1.out rfl _ _ HF1.out rfl HO.out (by omega) (by omega) (fun v' w' ho hg hat => ?_))
  go_wp2
  go_ret
  exact ⟨_, rfl, by have := ho.sl; rw [Nat.add_comm] at this; exact this, ho.below, .inr fun g h => (ho.own.lt g h).1⟩
end Go.Proofs.YtlhobhnbgdicjaaGreatDoor.worlds
namespace Go.Proofs.YtlhobhnbgdicjaaGreatDoor.worlds
open Go.RowKit lib maps classes errs
theorem line_head {W : WL} {n : ByteArray} {l : List ByteArray} (h : Line W n l) : ∃ r, l = n :: r := by
 cases h with
 | stop _ => exact ⟨[], rfl⟩
 | up _ _ => exact ⟨_, rfl⟩
theorem line_step {W : WL} {n : ByteArray} {l : List ByteArray} (h : Line W n l) : ∀ k (hk : k < l.length),
  ((cAt W l[k]).sup = noB → k + 1 = l.length) ∧ ((cAt W l[k]).sup ≠ noB → ∃ h : k + 1 < l.length, l[k + 1] = (cAt W l[k]).sup) := by
 induction h with
 | stop h0 =>
  intro k hk
  obtain rfl : k = 0 := by simpa using hk
  exact ⟨fun _ => rfl, fun h => absurd h0 h⟩
 | up h0 hl ih =>
  intro k hk
  cases k with
  | zero =>
   obtain ⟨r, hr⟩ := line_head hl
   refine ⟨fun h => absurd h h0, fun _ => ⟨by rw [hr]; simp, ?_⟩⟩
   simp [hr]
  | succ k =>
   have h1 := ih k (by simpa using hk)
   simp only [List.getElem_cons_succ, List.length_cons]
   refine ⟨fun h => by rw [h1.1 h], fun h => ?_⟩
   obtain ⟨h2, h3⟩ := h1.2 h
   exact ⟨by omega, h3⟩
theorem out_setRow {w0 w : World} {e : TypeId} {s : Nat} {v : Value} {n : Nat} {xs : List Value} {g : Nat} (h : Out w0 w e s v n xs) (ha : v.ownBlock ≠ some g) (hg : w0.heap.size ≤ g) (cs : Array Value) : Out w0 (w.setRow g cs) e s v n xs := by
 refine ⟨⟨h.own.1, ?_⟩, lib.below_setRow h.below hg cs⟩
 rcases h.own.2 with h1 | ⟨g', cap, cur, rfl, h2, h3, h4⟩
 ·exact .inl h1
 ·exact .inr ⟨g', cap, cur, rfl, h2, (setRow_other w g g' cs (fun e => ha (by rw [e]; rfl))).trans h3, h4⟩
def vlen : Value → Nat | .slice _ n _ => n | _ => 0
structure LRel (w0 w : World) (W : WL) (l : List ByteArray) (k : Nat) (v : Value) (B : Nat) : Prop where
 out : Out w0 w 9 1 v (k + 1) ((l.take (k + 1)).map .string)
 row : w.heap[B]? = some (.cells (cAt W (l.getD k noB)).cells.toArray 74 (0, 0))
 new : w0.heap.size ≤ B
 ap : v.ownBlock ≠ some B
theorem c_info : (Tryz.prog.info? 74).map (·.size) = some 6 := by kernel_rfl
set_option maxRecDepth 100000 in
set_option maxHeartbeats 8000000 in
theorem line_any (W : WL) (b : Nat) (n : ByteArray) (l : List ByteArray) (w : World) (hW : WAt w b W) (hl : Line W n l) (hn : l.length ≤ 100000000) :
  Calls Tryz.prog 140 #[.map (some b), .string n] w fun e w' => ∃ v, e = .returned v ∧ Out w w' 9 1 v l.length (l.map .string) := by
 have HW := hid hW
 have HST := hid (line_step hl)
 obtain ⟨l0, hl0⟩ := line_head hl
 have HL0 : Hid (0 < l.length ∧ l.getD 0 noB = n ∧ l.take 1 = [n]) := hid (by subst hl0; simp)
 obtain ⟨W1, hW1⟩ : ∃ W1, w.alloc (.cells #[.string n] 9) = W1 := ⟨_, rfl⟩
 have HB1 : Hid (Below w.heap.size w W1) := hid (hW1 ▸ ext_alloc _ _)
 have HO1 : Hid (Out w W1 9 1 (.slice (some ⟨w.heap.size, 0, none⟩) 1 1) 1 [.string n]) := hid (hW1 ▸ out_one (Below.refl _ _) 9 (.string n))
 have hlt1 : w.heap.size < W1.heap.size := by rw [← hW1]; simp
 have hlk := world_look (HW.out.below HB1.out) n
 have hat := (HW.out.below HB1.out).at_ n
 clear hW hl hl0
 obtain ⟨⟨nm, sup, vf, face, vd, vm, faces, fields, mets⟩, hc⟩ : ∃ c, cAt W n = c := ⟨_, rfl⟩
 have HC := hid hc
 rw [hc] at hlk hat
 obtain ⟨a1, c1, a2, c2, a3, c3, e1, e2, e3⟩ := cls_vals hat
 simp only at e1 e2 e3
 subst e1 e2 e3
 simp only [CV.cells] at hlk
 clear hat hc
 obtain ⟨W2, hW2⟩ : ∃ W2, W1.alloc (.cells #[.string nm, .string sup, .slice a1 faces.length c1, .bool face, .slice a2 fields.length c2, .slice a3 mets.length c3] 74) = W2 := ⟨_, rfl⟩
 have HR0 : Hid (LRel w W2 W l 0 (.slice (some ⟨w.heap.size, 0, none⟩) 1 1) W1.heap.size) := hid ⟨by
  rw [HL0.out.2.2, ← hW2]; exact HO1.out.alloc _, by
  rw [HL0.out.2.1, HC.out, ← hW2]; exact heap_alloc_new _ _, HB1.out.size, by simp [Value.ownBlock]; omega⟩
 clear HO1 HC
 go_enter Tryz.func140, Tryz.ntmps140
 go_wp2
 clear hlk hW1 hW2 hlt1
 go_loopw [5, 6] (fun v5 v6 wr => ∃ k B, k < l.length ∧ v6 = .pointer (some ⟨B, 0, none⟩) ∧ Hid (LRel w wr W l k v5 B)) (fun v5 _ _ => l.length - vlen v5)
 case atStart => exact ⟨0, _, HL0.out.1, rfl, HR0⟩
 case round =>
  obtain ⟨k, B, hk, rfl, HR⟩ := hrel
  clear HR0
  obtain ⟨m, hm⟩ : ∃ m, l[k] = m := ⟨_, rfl⟩
  have HWR := hid (HW.out.below HR.out.out.below)
  have hat := HWR.out.at_ m
  have hrow := HR.out.row
  have hst := HST.out k hk
  rw [show l.getD k noB = m from by simp [List.getD, List.getElem?_eq_getElem hk, hm]] at hrow
  rw [hm] at hst
  obtain ⟨⟨nm', sup', vf', face', vd', vm', faces', fields', mets'⟩, hc⟩ : ∃ c, cAt W m = c := ⟨_, rfl⟩
  rw [hc] at hat hrow hst
  obtain ⟨b1, d1, b2, d2, b3, d3, e1, e2, e3⟩ := cls_vals hat
  simp only at e1 e2 e3 hst
  subst e1 e2 e3
  simp only [CV.cells] at hrow
  have HROW := hid hrow
  have HST1 := hid hst
  have k1 : wr.cell? ⟨B, 1, none⟩ = some (.string sup') := by rw [cell_of_row _ _ _ _ _ _ hrow]; rfl
  obtain ⟨av, cv, rfl⟩ := HR.out.out.sl.val
  clear hat hrow hst hc
  by_cases h0 : sup' = noB
  ·have HE := hid (HST1.out.1 h0)
   have h2 : (sup'.toList == []) = true := by rw [(noB_iff sup').1 h0]; rfl
   have h1 := (noB_iff sup').1 h0
   clear h0
   go_wp2
   go_ret
   refine ⟨_, rfl, ?_⟩
   have h5 : l.take (k + 1) = l := by rw [HE.out, List.take_length]
   have := HR.out.out
   rw [h5] at this
   show Out w wr 9 1 (.slice av (k + 1) cv) l.length (l.map .string)
   rw [← HE.out]
   exact this
  ·have h1 : ¬ sup'.toList = [] := fun h => h0 ((noB_iff sup').2 h)
   have h2 : (sup'.toList == []) = false := beq_eq_false_iff_ne.2 h1
   have HE := hid (HST1.out.2 h0)
   clear h0
   go_wp2_with (at_builtin; refine wpList_append_lit_at w wr _ rfl _ _ 58 rfl 9 (.string { data := #[] }) 1 16 1 Tryz.underlying58 infoS rfl (by decide) _ _ _ HR.out.out rfl rfl rfl ?_ ?_ ?_ ?_)
   all_goals first | (intro v2 w2 ho2 hg2 hat2) | omega | (simp [Value.oneCell']; done) | skip
   have hBlt : B < wr.heap.size := (Array.getElem?_eq_some_iff.1 HROW.out).1
   have HROW2 : Hid (w2.heap[B]? = some (.cells #[.string nm', .string sup', .slice b1 faces'.length d1, .bool face', .slice b2 fields'.length d2, .slice b3 mets'.length d3] 74 (0, 0))) := hid ((hg2.block B hBlt (fun e => HR.out.ap e.symm)).trans HROW.out)
   have HO2 := hid ho2
   have HAT2 := hid hat2
   have hBlt2 : B < w2.heap.size := (Array.getElem?_eq_some_iff.1 HROW2.out).1
   have HV2 : Hid (v2.ownBlock ≠ some w2.heap.size) := hid (fun e => by
    have := (ho2.own.lt _ e).2
    omega)
   obtain ⟨a4, c4, hv2⟩ := ho2.sl.val
   subst hv2
   have q0 : w2.cell? ⟨B, 0, none⟩ = some (.string nm') := by rw [cell_of_row _ _ _ _ _ _ HROW2.out]; rfl
   have q1 : w2.cell? ⟨B, 1, none⟩ = some (.string sup') := by rw [cell_of_row _ _ _ _ _ _ HROW2.out]; rfl
   have q2 : w2.cell? ⟨B, 2, none⟩ = some (.slice b1 faces'.length d1) := by rw [cell_of_row _ _ _ _ _ _ HROW2.out]; rfl
   have q3 : w2.cell? ⟨B, 3, none⟩ = some (.bool face') := by rw [cell_of_row _ _ _ _ _ _ HROW2.out]; rfl
   have q4 : w2.cell? ⟨B, 4, none⟩ = some (.slice b2 fields'.length d2) := by rw [cell_of_row _ _ _ _ _ _ HROW2.out]; rfl
   have q5 : w2.cell? ⟨B, 5, none⟩ = some (.slice b3 mets'.length d3) := by rw [cell_of_row _ _ _ _ _ _ HROW2.out]; rfl
   obtain ⟨W3, hW3⟩ : ∃ W3, w2.alloc (.cells #[.string nm', .string sup', .slice b1 faces'.length d1, .bool face', .slice b2 fields'.length d2, .slice b3 mets'.length d3] 74) = W3 := ⟨_, rfl⟩
   have HR3 : Hid (W3.heap[w2.heap.size]? = some (.cells #[.string nm', .string sup', .slice b1 faces'.length d1, .bool face', .slice b2 fields'.length d2, .slice b3 mets'.length d3] 74 (0, 0))) := hid (hW3 ▸ heap_alloc_new _ _)
   have HO3 : Hid (Out w W3 9 1 (.slice a4 (k + 1 + 1) c4) (k + 1 + 1) ((l.take (k + 1 + 1)).map .string)) := hid (by
    obtain ⟨h5, h6⟩ := HE.out
    have := ho2.alloc (.cells #[.string nm', .string sup', .slice b1 faces'.length d1, .bool face', .slice b2 fields'.length d2, .slice b3 mets'.length d3] 74)
    rw [hW3] at this
    have e : (l.take (k + 1 + 1)).map Value.string = (l.map Value.string).take (k + 1) ++ [Value.string sup'] := by
     rw [List.take_add_one, List.getElem?_eq_getElem h5, h6, List.map_append, List.map_take]; rfl
    rw [e]
    first | exact this | (rw [List.map_take] at this; exact this))
   have p1 : W3.cell? ⟨w2.heap.size, 1, none⟩ = some (.string sup') := by rw [cell_of_row _ _ _ _ _ _ HR3.out]; rfl
   have hlk3 := world_look (HW.out.below HO3.out.below) sup'
   have hat3 := (HW.out.below HO3.out.below).at_ sup'
   obtain ⟨⟨nm4, sup4, vf4, face4, vd4, vm4, faces4, fields4, mets4⟩, hc4⟩ : ∃ c, cAt W sup' = c := ⟨_, rfl⟩
   have HC4 := hid hc4
   rw [hc4] at hlk3 hat3
   obtain ⟨b5, d5, b6, d6, b7, d7, e1, e2, e3⟩ := cls_vals hat3
   simp only at e1 e2 e3
   subst e1 e2 e3
   simp only [CV.cells] at hlk3
   clear hat3 hc4 ho2 hg2 hat2 k1
   go_wp2_with (first | (refine wpList_store_row rfl 74 _ _ rfl w2.heap.size #[.string nm4, .string sup4, .slice b5 faces4.length d5, .bool face4, .slice b6 fields4.length d6, .slice b7 mets4.length d7] rfl rfl 74 _ HR3.out c_info rfl (by simp [Value.oneCell']) ?_))
   simp only [Act.put]
   go_roundw
   case rel =>
    obtain ⟨h5, h6⟩ := HE.out
    refine ⟨k + 1, w2.heap.size, h5, rfl, hid ⟨out_setRow HO3.out HV2.out HO2.out.below.size _, ?_, HO2.out.below.size, HV2.out⟩⟩
    rw [show l.getD (k + 1) noB = sup' from by simp [List.getD, List.getElem?_eq_getElem h5, h6], HC4.out]
    exact setRow_heap _ _ _ _ _ _ HR3.out
   case measure =>
    obtain ⟨h5, h6⟩ := HE.out
    simp [vlen]; omega
end Go.Proofs.YtlhobhnbgdicjaaGreatDoor.worlds
namespace Go.Proofs.YtlhobhnbgdicjaaGreatDoor.worlds
open Go.RowKit lib maps classes errs
theorem look_ok {w : World} {b : Nat} {W : WL} (h : WAt w b W) (n : ByteArray) :
  ∃ nm sup a1 n1 c1 face a2 n2 c2 a3 n3 c3, (cAt W n).cells.toArray = #[.string nm, .string sup, .slice a1 n1 c1, .bool face, .slice a2 n2 c2, .slice a3 n3 c3] ∧ (cAt W n).face = face ∧
   (Instr.lookup 65 (.map (some b)) (.string n) true).run Tryz.prog w = .ok (.tuple #[.agg #[.string nm, .string sup, .slice a1 n1 c1, .bool face, .slice a2 n2 c2, .slice a3 n3 c3], .bool (getK W n).isSome]) w := by
 have hlk := world_look_ok h n
 have hat := h.at_ n
 obtain ⟨⟨nm, sup, vf, face, vd, vm, faces, fields, mets⟩, hc⟩ : ∃ c, cAt W n = c := ⟨_, rfl⟩
 rw [hc] at hlk hat ⊢
 obtain ⟨a1, c1, a2, c2, a3, c3, e1, e2, e3⟩ := cls_vals hat
 simp only at e1 e2 e3
 subst e1 e2 e3
 exact ⟨_, _, _, _, _, _, _, _, _, _, _, _, rfl, rfl, hlk⟩
set_option maxRecDepth 100000 in
set_option maxHeartbeats 4000000 in
theorem has_any (W : WL) (b : Nat) (n : ByteArray) (face : Bool) (w : World) (hW : WAt w b W) :
  Calls Tryz.prog 62 #[.map (some b), .string n, .bool face] w fun e w' => e = .returned (errVal (hasFault W n face)) ∧ Below w.heap.size w w' := by
 obtain ⟨nm, sup, a1, n1, c1, fc, a2, n2, c2, a3, n3, c3, _, hfc, hlk⟩ := look_ok hW n
 cases hg : getK W n with
 | none =>
  have hz : errVal (hasFault W n face) = .iface 28 (.int .i64 3) := by unfold hasFault; rw [hg]; rfl
  rw [hz]
  rw [hg] at hlk
  simp only [Option.isSome_none] at hlk
  clear hW hg hz hfc
  go_enter Tryz.func62, Tryz.ntmps62
  go_wp2
  go_ret
  exact ⟨rfl, ext_alloc _ _⟩
 | some c =>
  have hcc : cAt W n = c := by unfold cAt; rw [hg]; rfl
  rw [hcc] at hfc
  rw [hg] at hlk
  simp only [Option.isSome_some] at hlk
  have hz : hasFault W n face = if c.face ≠ face then 7 else 0 := by unfold hasFault; rw [hg]
  rw [hz, hfc]
  clear hW hg hz hcc hfc
  cases fc <;> cases face
  ·go_enter Tryz.func62, Tryz.ntmps62
   go_wp2
   go_ret
   exact ⟨rfl, ext_alloc _ _⟩
  ·go_enter Tryz.func62, Tryz.ntmps62
   go_wp2
   go_ret
   exact ⟨rfl, ext_alloc _ _⟩
  ·go_enter Tryz.func62, Tryz.ntmps62
   go_wp2
   go_ret
   exact ⟨rfl, ext_alloc _ _⟩
  ·go_enter Tryz.func62, Tryz.ntmps62
   go_wp2
   go_ret
   exact ⟨rfl, ext_alloc _ _⟩
theorem isIn_some {W : WL} {n : ByteArray} (h : (getK W n).isSome = true) : isIn W n = 0 := if_pos h
theorem isIn_none {W : WL} {n : ByteArray} (h : ¬ (getK W n).isSome = true) : isIn W n = 3 := if_neg h
set_option maxRecDepth 100000 in
set_option maxHeartbeats 8000000 in
theorem joined_any (W : WL) (b : Nat) (c : CV) (w : World) (hW : WAt w b W) (hc : c.At w) (hs : c.faces.length ≤ 1048576) :
  Calls Tryz.prog 46 #[.map (some b), .agg c.cells.toArray] w fun e w' => e = .returned (errVal (joinFault W c)) ∧ Below w.heap.size w w' := by
 have HW := hid hW
 obtain ⟨nm, sup, vf, face, vd, vm, faces, fields, mets⟩ := c
 obtain ⟨a1, c1, a2, c2, a3, c3, e1, e2, e3⟩ := cls_vals hc
 simp only at e1 e2 e3 hs
 subst e1 e2 e3
 have HF := hid (show Sl w (.slice a1 faces.length c1) faces.length 1 (faces.map .string) from hc.faces)
 show Calls Tryz.prog 46 #[.map (some b), .agg #[.string nm, .string sup, .slice a1 faces.length c1, .bool face, .slice a2 fields.length c2, .slice a3 mets.length c3]] w _
 obtain ⟨Z, hZ⟩ : ∃ Z, joinFault W ⟨nm, sup, .slice a1 faces.length c1, face, .slice a2 fields.length c2, .slice a3 mets.length c3, faces, fields, mets⟩ = Z := ⟨_, rfl⟩
 rw [hZ]
 have HZ : Hid ((if sup = noB then 1 else if isIn W sup ≠ 0 then 3 else if firstF (isIn W) faces ≠ 0 then 3 else if hasFault W sup false ≠ 0 then hasFault W sup false else if firstF (fun f => hasFault W f true) faces ≠ 0 then firstF (fun f => hasFault W f true) faces else if face = true ∧ sup ≠ objB then 7 else 0) = Z) := hid hZ
 clear hZ hc hW
 obtain ⟨W1, hW1⟩ : ∃ W1, w.alloc (.cells #[.string nm, .string sup, .slice a1 faces.length c1, .bool face, .slice a2 fields.length c2, .slice a3 mets.length c3] 74) = W1 := ⟨_, rfl⟩
 have HB1 : Hid (Below w.heap.size w W1) := hid (hW1 ▸ ext_alloc _ _)
 have hlt : w.heap.size < W1.heap.size := by rw [← hW1]; simp
 have HR1 : Hid (W1.heap[w.heap.size]? = some (.cells #[.string nm, .string sup, .slice a1 faces.length c1, .bool face, .slice a2 fields.length c2, .slice a3 mets.length c3] 74 (0, 0))) := hid (hW1 ▸ heap_alloc_new _ _)
 have HX : Hid (∀ u, Below W1.heap.size W1 u → u.cell? ⟨w.heap.size, 1, none⟩ = some (.string sup) ∧ u.cell? ⟨w.heap.size, 2, none⟩ = some (.slice a1 faces.length c1) ∧ u.cell? ⟨w.heap.size, 3, none⟩ = some (.bool face)) := hid (fun u hu => by
  have h := (hu.block _ hlt).trans HR1.out
  refine ⟨?_, ?_, ?_⟩ <;> (rw [cell_of_row _ _ _ _ _ _ h]; rfl))
 obtain ⟨x1, x2, x3⟩ := HX.out _ (Below.refl _ _)
 have HLT := hid hlt
 clear hlt
 by_cases h0 : sup = noB
 ·have h1 := (noB_iff sup).1 h0
  have h2 : (sup.toList == []) = true := by rw [h1]; rfl
  have hz := HZ.out
  rw [if_pos h0] at hz
  subst hz
  clear h0
  go_enter Tryz.func46, Tryz.ntmps46
  go_wp2
  go_ret
  exact ⟨rfl, HB1.out⟩
 have h1 : ¬ sup.toList = [] := fun h => h0 ((noB_iff sup).2 h)
 have h2 : (sup.toList == []) = false := beq_eq_false_iff_ne.2 h1
 have HZ1 := hid HZ.out
 rw [if_neg h0] at HZ1
 clear h0 HZ
 obtain ⟨nm4, sup4, b1, m1, d1, fc4, b2, m2, d2, b3, m3, d3, _, _, hlk⟩ := look_ok (HW.out.below HB1.out) sup
 by_cases h3 : (getK W sup).isSome = true
 ·rw [h3] at hlk
  obtain ⟨W2, hW2⟩ : ∃ W2, W1.alloc (.cells #[.string nm4, .string sup4, .slice b1 m1 d1, .bool fc4, .slice b2 m2 d2, .slice b3 m3 d3] 74) = W2 := ⟨_, rfl⟩
  have HB12 : Hid (Below W1.heap.size W1 W2) := hid (hW2 ▸ ext_alloc _ _)
  have HB2 := hid (HB1.out.trans (HB12.out.mono HB1.out.size))
  obtain ⟨y1, y2, y3⟩ := HX.out _ HB12.out
  have HZ2 := hid HZ1.out
  rw [isIn_some h3, if_neg (by simp)] at HZ2
  clear h3 HZ1
  go_enter Tryz.func46, Tryz.ntmps46
  go_wp2
  clear hlk hW1 hW2 x1 x2 x3 y1 y2 y3
  go_loopw [32] (fun v wr => ∃ k : Nat, k ≤ faces.length ∧ v = .int .i64 (k : Int) ∧ Hid (Below W2.heap.size W2 wr) ∧ Hid (firstF (isIn W) (faces.drop k) = firstF (isIn W) faces)) (fun v _ => faces.length - (intOf v).toNat)
  case atStart => exact ⟨0, Nat.zero_le _, rfl, hid (Below.refl _ _), hid rfl⟩
  case round =>
   obtain ⟨k, hk, rfl, HBw, HFF⟩ := hrel
   obtain ⟨wa, hwa⟩ : ∃ wa, wa = wr := ⟨_, rfl⟩
   subst hwa
   have HB1w := hid (HB12.out.trans (HBw.out.mono HB12.out.size))
   have HB0w := hid (HB1.out.trans (HB1w.out.mono HB1.out.size))
   by_cases hlt : k < faces.length
   ·obtain ⟨bx, ox, hax, hcx⟩ := text_at (HF.out.below HB0w.out) hlt
    subst hax
    obtain ⟨s, hs1⟩ : ∃ s, faces[k] = s := ⟨_, rfl⟩
    rw [hs1] at hcx
    have hk0 : (0 : Int) ≤ (k : Int) := by omega
    have hk1 : (k : Int) < (faces.length : Int) := by omega
    obtain ⟨nm5, sup5, p1, m5, e1, fc5, p2, m6, e2, p3, m7, e3, _, _, hlk⟩ := look_ok (HW.out.below HB0w.out) s
    by_cases h5 : (getK W s).isSome = true
    ·rw [h5] at hlk
     have HN := hid ((ff_ok hlt (by rw [hs1]; exact isIn_some h5)).symm.trans HFF.out)
     clear h5 hs1
     go_wp2_with fail
     go_roundw
     case rel => exact ⟨k + 1, by omega, by simp, hid (HBw.out.alloc HBw.out.size _), HN⟩
     case measure => simp [intOf]; omega
    ·have hn : (getK W s).isSome = false := by simpa using h5
     rw [hn] at hlk
     have hz := HZ2.out
     have h6 : firstF (isIn W) faces = 3 := by rw [← HFF.out, ff_no hlt (by rw [hs1, isIn_none h5]; decide), hs1, isIn_none h5]
     rw [h6, if_pos (by decide)] at hz
     subst hz
     clear h5 hn hs1 h6
     go_wp2
     go_ret
     exact ⟨rfl, HB0w.out.alloc HB0w.out.size _⟩
   ·obtain rfl : k = faces.length := by omega
    have h6 : firstF (isIn W) faces = 0 := by rw [← HFF.out, ff_end (by omega)]
    have HZ3 := hid HZ2.out
    rw [h6, if_neg (by simp)] at HZ3
    obtain ⟨x1, x2, x3⟩ := HX.out _ HB1w.out
    clear h6 hlt HFF
    go_wp2_with fail
    refine (has_any W b sup false _ (HW.out.below HB0w.out)).mono ?_
    rintro e w4 ⟨rfl, hb4⟩
    have HB14 := hid (HB1w.out.trans (hb4.mono HB1w.out.size))
    have HB4 := hid (HB0w.out.trans (hb4.mono HB0w.out.size))
    obtain ⟨x1, x2, x3⟩ := HX.out _ HB14.out
    clear hb4
    by_cases h7 : hasFault W sup false = 0
    ·rw [show errVal (hasFault W sup false) = .nilIface from by unfold errVal; rw [if_pos h7]]
     have HZ4 := hid HZ3.out
     rw [h7, if_neg (by simp)] at HZ4
     clear h7 HZ3
     go_wp2
     clear x1 x2 x3
     go_loopw [56] (fun v wx => ∃ k2 : Nat, k2 ≤ faces.length ∧ v = .int .i64 (k2 : Int) ∧ Hid (Below w4.heap.size w4 wx) ∧ Hid (firstF (fun f => hasFault W f true) (faces.drop k2) = firstF (fun f => hasFault W f true) faces)) (fun v _ => faces.length - (intOf v).toNat)
     case atStart => exact ⟨0, Nat.zero_le _, rfl, hid (Below.refl _ _), hid rfl⟩
     case round =>
      obtain ⟨k2, hk2, rfl, HBw2, HFF2⟩ := hrel
      have HB14w := hid (HB14.out.trans (HBw2.out.mono HB14.out.size))
      have HB4w := hid (HB4.out.trans (HBw2.out.mono HB4.out.size))
      by_cases hlt2 : k2 < faces.length
      ·obtain ⟨bx, ox, hax, hcx⟩ := text_at (HF.out.below HB4w.out) hlt2
       subst hax
       obtain ⟨s, hs1⟩ : ∃ s, faces[k2] = s := ⟨_, rfl⟩
       rw [hs1] at hcx
       have hk0 : (0 : Int) ≤ (k2 : Int) := by omega
       have hk1 : (k2 : Int) < (faces.length : Int) := by omega
       go_wp2_with fail
       refine (has_any W b s true _ (HW.out.below HB4w.out)).mono ?_
       rintro e w5 ⟨rfl, hb5⟩
       have HB5w := hid (HBw2.out.trans (hb5.mono HBw2.out.size))
       have HB5 := hid (HB4w.out.trans (hb5.mono HB4w.out.size))
       clear hb5 hcx
       by_cases h8 : hasFault W s true = 0
       ·rw [show errVal (hasFault W s true) = .nilIface from by unfold errVal; rw [if_pos h8]]
        have HN := hid ((ff_ok (f := fun f => hasFault W f true) hlt2 (by rw [hs1]; exact h8)).symm.trans HFF2.out)
        clear h8 hs1
        go_wp2_with fail
        go_roundw
        case rel => exact ⟨k2 + 1, by omega, by simp, HB5w, HN⟩
        case measure => simp [intOf]; omega
       ·rw [show errVal (hasFault W s true) = .iface 28 (.int .i64 (hasFault W s true)) from by unfold errVal; rw [if_neg h8]]
        have h9 : firstF (fun f => hasFault W f true) faces = hasFault W s true := by rw [← HFF2.out, ff_no (f := fun f => hasFault W f true) hlt2 (by rw [hs1]; exact h8), hs1]
        have hz := HZ4.out
        rw [h9, if_pos h8] at hz
        have hzv : errVal Z = .iface 28 (.int .i64 (hasFault W s true)) := by rw [← hz]; unfold errVal; rw [if_neg h8]
        have HZV := hid hzv
        clear h8 hz hzv h9 hs1
        go_wp2
        go_ret
        exact ⟨by rw [HZV.out]; rfl, HB5.out⟩
      ·obtain rfl : k2 = faces.length := by omega
       have h9 : firstF (fun f => hasFault W f true) faces = 0 := by rw [← HFF2.out, ff_end (by omega)]
       have hz := HZ4.out
       rw [h9, if_neg (by simp)] at hz
       obtain ⟨x1, x2, x3⟩ := HX.out _ HB14w.out
       clear h9 hlt2 HFF2
       cases face with
       | false =>
        rw [if_neg (by simp)] at hz
        subst hz
        go_wp2
        go_ret
        exact ⟨rfl, HB4w.out⟩
       | true =>
        by_cases hso : sup = objB
        ·rw [if_neg (by simp [hso])] at hz
         subst hz
         have ho1 : (sup.toList == [79, 98, 106, 101, 99, 116]) = true := by rw [hso, ByteArray.toList_eq]; rfl
         have ho2 : sup.toList = [79, 98, 106, 101, 99, 116] := by simpa using ho1
         clear hso
         go_wp2
         go_ret
         exact ⟨rfl, HB4w.out⟩
        ·rw [if_pos ⟨rfl, hso⟩] at hz
         subst hz
         have ho2 : ¬ sup.toList = [79, 98, 106, 101, 99, 116] := fun h => hso (by
          rw [ByteArray.toList_eq] at h
          cases sup with
          | mk d =>
           have : d = #[79, 98, 106, 101, 99, 116] := by
            apply Array.toList_inj.1; exact h
           subst this; rfl)
         have ho1 : (sup.toList == [79, 98, 106, 101, 99, 116]) = false := beq_eq_false_iff_ne.2 ho2
         clear hso
         go_wp2
         go_ret
         exact ⟨rfl, HB4w.out⟩
    ·rw [show errVal (hasFault W sup false) = .iface 28 (.int .i64 (hasFault W sup false)) from by unfold errVal; rw [if_neg h7]]
     have hz := HZ3.out
     rw [if_pos h7] at hz
     have hzv : errVal Z = .iface 28 (.int .i64 (hasFault W sup false)) := by rw [← hz]; unfold errVal; rw [if_neg h7]
     have HZV := hid hzv
     clear h7 hz hzv
     go_wp2
     go_ret
     exact ⟨by rw [HZV.out]; rfl, HB4.out⟩
 ·have hn : (getK W sup).isSome = false := by simpa using h3
  rw [hn] at hlk
  have hz := HZ1.out
  rw [isIn_none h3, if_pos (by decide)] at hz
  subst hz
  clear h3 hn
  go_enter Tryz.func46, Tryz.ntmps46
  go_wp2
  go_ret
  exact ⟨rfl, HB1.out.alloc HB1.out.size _⟩
end Go.Proofs.YtlhobhnbgdicjaaGreatDoor.worlds
namespace Go.Proofs.YtlhobhnbgdicjaaGreatDoor.worlds
open Go.RowKit lib maps classes errs
def sortB (l : List ByteArray) : List ByteArray := ((l.map fun x => x.data.toList).mergeSort fun x y => decide (x ≤ y)).map fun x => ⟨x.toArray⟩
theorem sortB_len (l : List ByteArray) : (sortB l).length = l.length := by unfold sortB; rw [List.length_map, List.length_mergeSort, List.length_map]
theorem mem_sortB {l : List ByteArray} {x : ByteArray} : x ∈ sortB l ↔ x ∈ l := by
 unfold sortB
 simp only [List.mem_map, List.mem_mergeSort]
 constructor
 ·rintro ⟨_, ⟨y, hy, rfl⟩, rfl⟩
  exact hy
 ·intro h
  exact ⟨_, ⟨x, h, rfl⟩, rfl⟩
theorem inT_sort (l : List ByteArray) (x : ByteArray) : inTexts x (sortB l) = inTexts x l := by
 rw [Bool.eq_iff_iff, inT_mem, inT_mem, mem_sortB]
theorem below_sorted {w0 w : World} (h : Below w0.heap.size w0 w) {g : Nat} (hg : w0.heap.size ≤ g) (n : Nat) (d : Array (List UInt8)) (os : Array Obj) : Below w0.heap.size w0 (Go.Sort.grow (Go.Sort.putRow Go.Proofs.encStr (Go.Sort.ahead w n) g 0 d) os) := by
 refine h.trans ⟨rfl, rfl, rfl, ?_, fun k hk => ?_⟩
 ·rw [Go.Sort.size_grow, Go.Sort.size_putRow, Go.Sort.heap_ahead]; omega
 ·have hkw : k < w.heap.size := Nat.lt_of_lt_of_le hk h.size
  rw [Go.Sort.heap_grow_old _ _ (by rw [Go.Sort.size_putRow, Go.Sort.heap_ahead]; exact hkw)]
  have hne : ¬ g = k := by omega
  simp [Go.Sort.putRow, Go.Sort.mapBlock, Go.Sort.ahead, Array.getElem?_modify, hne]
theorem sort_any {w0 w : World} {v : Value} {l : List ByteArray} (ho : Out w0 w 9 1 v l.length (l.map .string)) (h1 : 1 ≤ l.length) (hsz : l.length ≤ 1000000000) :
  Calls Tryz.prog 86 #[v] w fun e w' => e = .returned (.tuple #[]) ∧ Sl w' v l.length 1 ((sortB l).map .string) ∧ Below w0.heap.size w0 w' := by
 rcases ho.own.2 with ⟨_, h0⟩ | ⟨g, cap, cur, rfl, hg, hrow, hc, _, hcs, hxs⟩
 ·omega
 rw [Nat.mul_one] at hxs
 obtain ⟨ss, hss⟩ : ∃ ss, l.map (fun x => x.data.toList) = ss := ⟨_, rfl⟩
 have hsl : ss.length = l.length := by rw [← hss, List.length_map]
 have hgl : g < w.heap.size := (Array.getElem?_eq_some_iff.1 hrow).1
 have hH : Go.Sort.Holds Go.Proofs.encStr w g 0 ss.toArray := by
  intro j hj
  have hjl : j < l.length := by rw [← hsl]; simpa using hj
  refine ⟨?_, ?_⟩
  ·rw [Nat.zero_add, cell_of_row _ _ _ _ _ _ hrow]
   have e1 : (cur.toList.take l.length)[j]? = cur[j]? := by rw [List.getElem?_take, if_pos hjl, Array.getElem?_toList]
   rw [← e1, hxs, List.getElem?_map, List.getElem?_eq_getElem hjl]
   have e2 : ss.toArray[j]! = l[j].data.toList := by
    subst hss
    simp [hjl]
   rw [e2]
   simp [Go.Proofs.encStr]
  ·exact frozen_of_row _ _ _ _ _ hrow
 have hrun := Tryz.slices_Sort_string g 0 cap ss w hH hgl (by omega)
 rw [hsl] at hrun
 refine hrun.mono ?_
 rintro e w' ⟨rfl, n, os, rfl⟩
 refine ⟨rfl, ?_, below_sorted ho.below hg n _ os⟩
 obtain ⟨d, hd⟩ : ∃ d, (ss.mergeSort fun x y => decide (x ≤ y)) = d := ⟨_, rfl⟩
 rw [hd]
 have hdl : d.length = ss.length := by rw [← hd, List.length_mergeSort]
 have hP := Go.Sort.holds_putRow Go.Proofs.encStr (Go.Sort.ahead w n) g 0 ss.toArray d.toArray hH (by simpa using hdl)
 have hG := Go.Sort.holds_grow Go.Proofs.encStr _ os g 0 d.toArray (by rw [Go.Sort.size_putRow, Go.Sort.heap_ahead]; exact hgl) hP
 have hsb : sortB l = d.map fun x => ⟨x.toArray⟩ := by unfold sortB; rw [hss, hd]
 refine ⟨by rw [List.length_map, sortB_len, Nat.mul_one], _, _, rfl, hc, .inr ⟨g, 0, rfl, fun j u hj => ?_⟩⟩
 rw [hsb, List.map_map, List.getElem?_map] at hj
 have hjd : j < d.length := by
  rcases Nat.lt_or_ge j d.length with h | h
  ·exact h
  ·rw [List.getElem?_eq_none h] at hj; cases hj
 rw [List.getElem?_eq_getElem hjd] at hj
 have := (hG j (by simpa using hjd)).1
 rw [this]
 have e3 : d.toArray[j]! = d[j] := by simp [hjd]
 rw [e3]
 simpa [Go.Proofs.encStr] using hj
theorem add_snoc (l : List ByteArray) (x : ByteArray) : ∀ R, addAll R (l ++ [x]) = if inTexts x (addAll R l) = true then addAll R l else addAll R l ++ [x] := by
 induction l with
 | nil => intro R; rfl
 | cons a l ih => intro R; simp only [List.cons_append, addAll]; exact ih _
theorem sl_keep {w w' : World} {v : Value} {n s : Nat} {xs : List Value} {r : Option Nat} (h : Sl w v n s xs) (hg : w.grownBy w' r) (ha : ∀ g, v.ownBlock = some g → r ≠ some g) : Sl w' v n s xs := by
 obtain ⟨hx, a, c, rfl, hc, h⟩ := h
 refine ⟨hx, a, c, rfl, hc, ?_⟩
 rcases h with h | ⟨b, off, rfl, h⟩
 ·exact .inl h
 ·refine .inr ⟨b, off, rfl, fun j u hj => ?_⟩
  have h1 := h j u hj
  have hb := World.block_lt_of_cell? _ _ h1
  have := hg.block b hb (fun e => ha b rfl e.symm)
  unfold World.cell? at h1 ⊢
  simp only at h1 ⊢
  rw [this]; exact h1
end Go.Proofs.YtlhobhnbgdicjaaGreatDoor.worlds
namespace Go.Proofs.YtlhobhnbgdicjaaGreatDoor.worlds
open Go.RowKit lib maps classes errs
structure ERel (w0 wx : World) (R A : List ByteArray) (k : Nat) (v vA : Value) : Prop where
 out : Out w0 wx 9 1 v (addAll R (A.take k)).length ((addAll R (A.take k)).map .string)
 sla : Sl wx vA A.length 1 (A.map .string)
 ap : A ≠ [] → ∀ g, vA.ownBlock = some g → v.ownBlock ≠ some g ∧ g < wx.heap.size
theorem sl_blk {w : World} {v : Value} {n : Nat} {l : List ByteArray} (h : Sl w v n 1 (l.map .string)) (hl : l ≠ []) {g : Nat} (hg : v.ownBlock = some g) : g < w.heap.size := by
 obtain ⟨hx, a, c, rfl, hc, h⟩ := h
 rcases h with h | ⟨b, off, rfl, h⟩
 ·exact absurd (List.map_eq_nil_iff.1 h) hl
 ·have : b = g := Option.some.inj hg
  subst this
  obtain ⟨x, r, rfl⟩ := List.exists_cons_of_ne_nil hl
  exact World.block_lt_of_cell? _ _ (h 0 _ rfl)
theorem add_append (l m : List ByteArray) : ∀ R, addAll R (l ++ m) = addAll (addAll R l) m := by
 induction l with
 | nil => intro R; rfl
 | cons a l ih => intro R; simp only [List.cons_append, addAll]; exact ih _
theorem add_len (R l : List ByteArray) : R.length ≤ (addAll R l).length := by
 obtain ⟨r, h⟩ := add_pre l R
 rw [h, List.length_append]; omega
set_option maxRecDepth 100000 in
set_option maxHeartbeats 8000000 in
theorem every_any (W : WL) (b : Nat) (n : ByteArray) (w : World) (hW : WAt w b W) (hs : ∀ x, (cAt W x).faces.length ≤ 1048576) (hm : most W ≤ 13000001) :
  Calls Tryz.prog 66 #[.map (some b), .string n] w fun e w' => ∃ v, e = .returned v ∧ Sl w' v (everyU W n).length 1 ((sortB (everyU W n)).map .string) ∧ Below w.heap.size w w' := by
 have HW := hid hW
 have HS := hid hs
 have HM := hid hm
 obtain ⟨W1, hW1⟩ : ∃ W1, w.alloc (.cells #[.string n] 9) = W1 := ⟨_, rfl⟩
 have HO1 : Hid (Out w W1 9 1 (.slice (some ⟨w.heap.size, 0, none⟩) 1 1) 1 [.string n]) := hid (hW1 ▸ out_one (Below.refl _ _) 9 (.string n))
 clear hW hs hm
 go_enter Tryz.func66, Tryz.ntmps66
 go_wp2
 clear hW1
 go_loopw [5, 6] (fun v5 v6 wr => ∃ i : Nat, i ≤ (rounds W n i).length ∧ v6 = .int .i64 (i : Int) ∧ Hid (Out w wr 9 1 v5 (rounds W n i).length ((rounds W n i).map .string))) (fun _ v6 _ => most W - (intOf v6).toNat)
 case atStart => exact ⟨0, Nat.zero_le _, rfl, HO1⟩
 case round =>
  obtain ⟨i, hi, rfl, HR⟩ := hrel
  clear HO1
  obtain ⟨wa, hwa⟩ : ∃ wa, wa = wr := ⟨_, rfl⟩
  subst hwa
  obtain ⟨R, hR⟩ : ∃ R, rounds W n i = R := ⟨_, rfl⟩
  have HRR := hid hR
  have hml := Nat.le_trans (rounds_most W n i) HM.out
  rw [hR] at HR hi hml
  obtain ⟨av, cv, rfl⟩ := HR.out.sl.val
  have hi0 : (0 : Int) ≤ (i : Int) := by omega
  by_cases hlt : i < R.length
  ·have hi1 : (i : Int) < (R.length : Int) := by omega
   obtain ⟨bx, ox, hax, hcx⟩ := text_at HR.out.sl hlt
   subst hax
   obtain ⟨a, ha⟩ : ∃ a, R[i] = a := ⟨_, rfl⟩
   rw [ha] at hcx
   have HA := hid ha
   have HWR := hid (HW.out.below HR.out.below)
   have hWS := HS.out a
   clear hR ha
   go_wp2_with fail
   refine (above_any W b a _ HWR.out hWS).mono ?_
   rintro e w2 ⟨vA, rfl, hsa, hb2, hor⟩
   obtain ⟨A, hA⟩ : ∃ A, above W a = A := ⟨_, rfl⟩
   rw [hA] at hsa
   have HAA := hid hA
   have HE0 : Hid (ERel w w2 R A 0 (.slice (some ⟨bx, ox, none⟩) R.length cv) vA) := hid (by
    have ho := HR.out.own
    refine ⟨⟨?_, HR.out.below.trans (hb2.mono HR.out.below.size)⟩, hsa, fun hne g hg => ⟨fun e => ?_, sl_blk hsa hne hg⟩⟩
    ·rw [List.take_zero]
     show World.ownsRow w2 _ _ _ _ R.length (R.map .string)
     refine ⟨ho.1, ?_⟩
     rcases ho.2 with h | ⟨g', cap, cur, h1, h2, h3, h4⟩
     ·exact .inl h
     ·exact .inr ⟨g', cap, cur, h1, h2, (hb2.block g' (Array.getElem?_eq_some_iff.1 h3).1).trans h3, h4⟩
    ·have hge := HR.out.own.lt g e
     rcases hor with h | h
     ·rw [h] at hg
      have hf := (HW.out.at_ a).faces
      rw [h] at hsa
      have hfa : (cAt W a).faces ≠ [] := by
       intro h0
       rw [h0] at hf
       have : A.length = 0 := by
        have h5 := hsa.1
        obtain ⟨_, _, _, h6, _⟩ := hsa
        obtain ⟨_, _, _, h7, _⟩ := hf
        rw [h6] at h7
        simp only [Value.slice.injEq] at h7
        simpa using h7.2.1
       exact hne (List.eq_nil_of_length_eq_zero this)
      have := sl_blk hf hfa hg
      omega
     ·have := h g hg
      omega)
   obtain ⟨aA, cA, rfl⟩ := hsa.val
   clear hsa hb2 hor hA hcx
   have HST : Hid (rounds W n (i + 1) = addAll R A) := hid (by
    show (match (rounds W n i)[i]? with | some a => addAll (rounds W n i) (above W a) | none => rounds W n i) = _
    rw [HRR.out, List.getElem?_eq_getElem hlt, HA.out]
    simp only [HAA.out])
   have hAl : A.length ≤ 1048577 := by
    rw [← HAA.out]
    unfold above aboveC
    split
    ·omega
    ·simp only [List.length_cons]; omega
   have hml2 : (addAll R A).length ≤ 13000001 := by rw [← HST.out]; exact Nat.le_trans (rounds_most W n (i + 1)) HM.out
   go_wp2
   go_loopw [5, 24] (fun v5 v24 wx => ∃ k : Nat, k ≤ A.length ∧ v24 = .int .i64 (k : Int) ∧ Hid (ERel w wx R A k v5 (.slice aA A.length cA))) (fun _ v24 _ => A.length - (intOf v24).toNat)
   case atStart => exact ⟨0, Nat.zero_le _, rfl, HE0⟩
   case round =>
    obtain ⟨k, hk, rfl, HE⟩ := hrel
    clear HE0
    by_cases hlt2 : k < A.length
    ·obtain ⟨by_, oy, hay, hcy⟩ := text_at HE.out.sla hlt2
     subst hay
     obtain ⟨x, hx⟩ : ∃ x, A[k] = x := ⟨_, rfl⟩
     rw [hx] at hcy
     obtain ⟨S, hS⟩ : ∃ S, addAll R (A.take k) = S := ⟨_, rfl⟩
     have HS1 : Hid (addAll R (A.take (k + 1)) = if inTexts x S = true then S else S ++ [x]) := hid (by rw [List.take_add_one, List.getElem?_eq_getElem hlt2, hx, ← hS]; exact add_snoc _ _ _)
     have hSl : S.length ≤ 13000001 := by
      have h1 := add_append (A.take k) (A.drop k) R
      rw [List.take_append_drop, hS] at h1
      have h2 := add_len S (A.drop k)
      rw [← h1] at h2
      omega
     have HOUT : Hid (Out w wr 9 1 u5 S.length (S.map .string)) := hid (by rw [← hS]; exact HE.out.out)
     obtain ⟨a5, c5, rfl⟩ := HOUT.out.sl.val
     have hk0 : (0 : Int) ≤ (k : Int) := by omega
     have hk1 : (k : Int) < (A.length : Int) := by omega
     clear hx hS
     go_wp2_with fail
     refine (hasText_any _ _ _ S x _ HOUT.out.sl (by omega)).mono ?_
     rintro e w3 ⟨rfl, rfl⟩
     by_cases hin : inTexts x S = true
     ·rw [hin]
      have HIN := hid hin
      clear hin
      go_wp2_with fail
      go_roundw
      case rel => exact ⟨k + 1, by omega, by simp, hid ⟨by rw [HS1.out, if_pos HIN.out]; exact HOUT.out, HE.out.sla, HE.out.ap⟩⟩
      case measure => simp [intOf]; omega
     ·have hinf : inTexts x S = false := by simpa using hin
      rw [hinf]
      have HIN := hid hinf
      clear hin hinf hcy
      go_wp2_with (at_builtin; refine wpList_append_lit_at w wr _ rfl _ _ 58 rfl 9 (.string { data := #[] }) 1 16 1 Tryz.underlying58 infoS rfl (by decide) _ _ _ HOUT.out rfl rfl rfl ?_ ?_ ?_ ?_)
      all_goals first | (intro v2 w2' ho2 hg2 hat2) | omega | (simp [Value.oneCell']; done) | skip
      have HE2 : Hid (ERel w w2' R A (k + 1) v2 (.slice (some ⟨by_, oy, none⟩) A.length cA)) := hid (by
       have hne : A ≠ [] := fun h => by rw [h] at hlt2; exact Nat.not_lt_zero _ hlt2
       refine ⟨?_, sl_keep HE.out.sla hg2 (fun g hg => (HE.out.ap hne g hg).1), fun _ g hg => ?_⟩
       ·have e1 : (addAll R (A.take (k + 1))) = S ++ [x] := by rw [HS1.out, if_neg (by rw [HIN.out]; simp)]
        rw [e1, List.length_append, List.map_append]
        exact ho2
       ·obtain ⟨h1, h2⟩ := HE.out.ap hne g hg
        have h3 := hg2.size
        refine ⟨fun e => ?_, by omega⟩
        rcases hat2 with h4 | ⟨q, h4, h5⟩
        ·rw [h4] at e; exact h1 e
        ·rw [h4] at e
         have := Option.some.inj e
         omega)
      clear ho2 hg2 hat2
      go_wp2_with fail
      go_roundw
      case rel => exact ⟨k + 1, by omega, by simp, HE2⟩
      case measure => simp [intOf]; omega
    ·obtain rfl : k = A.length := by omega
     have HN : Hid (Out w wr 9 1 u5 (rounds W n (i + 1)).length ((rounds W n (i + 1)).map .string)) := hid (by
      have := HE.out.out
      rw [List.take_length, ← HST.out] at this; exact this)
     have HNL : Hid (i + 1 ≤ (rounds W n (i + 1)).length) := hid (by
      have h := add_len R A
      rw [← HST.out] at h; omega)
     have HML : Hid (i < most W) := hid (by
      have := rounds_most W n i
      rw [HRR.out] at this; omega)
     go_wp2_with fail
     go_roundw
     case rel => exact ⟨i + 1, HNL.out, by simp, HN⟩
     case measure => have := HML.out; simp [intOf]; omega
  ·have HI : Hid (i = R.length) := hid (by omega)
   have HU : Hid (R = everyU W n) := hid (by
    have h := rounds_all (W := W) (n := n) (i := i) (by rw [hR]; omega) (by
     have := rounds_most W n i
     rw [hR] at this; omega)
    rw [hR] at h; exact h)
   have hi1 : ¬ (i : Int) < (R.length : Int) := by omega
   have hlen : 1 ≤ R.length := by have := rounds_len W n i; rw [hR] at this; exact this
   have hsz : R.length ≤ 1000000000 := by omega
   clear hR
   go_wp2_with fail
   refine (sort_any HR.out hlen hsz).mono ?_
   rintro e w4 ⟨rfl, hs4, hb4⟩
   rw [HU.out] at hs4
   have HS4 := hid hs4
   have HB4 := hid hb4
   clear hs4 hb4
   go_wp2
   go_ret
   exact ⟨_, rfl, by have := HS4.out; rw [← HU.out] at this ⊢; exact this, HB4.out⟩
end Go.Proofs.YtlhobhnbgdicjaaGreatDoor.worlds
namespace Go.Proofs.YtlhobhnbgdicjaaGreatDoor.worlds
open Go.RowKit lib maps classes errs grow
def evR (W : WL) (a : ByteArray) : Value → World → Prop := fun v u => ∃ v', v = v' ∧ Sl u v' (everyU W a).length 1 ((sortB (everyU W a)).map .string)
theorem evR_stays (W : WL) (a : ByteArray) : ∀ v u u', Below u.heap.size u u' → evR W a v u → evR W a v u' := by
 rintro v u u' hb ⟨v', rfl, h⟩
 exact ⟨_, rfl, h.below hb⟩
set_option maxRecDepth 100000 in
set_option maxHeartbeats 4000000 in
theorem round1_any (W : WL) (b b1 b2 : Nat) (n a : ByteArray) (w : World) (hW : WAt w b W) (hs : ∀ x, (cAt W x).faces.length ≤ 1048576) (hm : most W ≤ 13000001) (hc1 : w.cell? ⟨b1, 0, none⟩ = some (.map (some b))) (hc2 : w.cell? ⟨b2, 0, none⟩ = some (.string n)) :
  Calls Tryz.prog 65 #[.string a, .pointer (some ⟨b1, 0, none⟩), .pointer (some ⟨b2, 0, none⟩)] w fun e w' => e = .returned (.bool (inTexts n (everyU W a))) ∧ Below w.heap.size w w' := by
 have HW := hid hW; have HS := hid hs; have HM := hid hm; have HC1 := hid hc1; have HC2 := hid hc2
 have HL : Hid ((everyU W a).length ≤ 1000000000000) := hid (by have := rounds_most W a (most W); unfold everyU; omega)
 clear hW hs hm hc1 hc2
 go_enter Tryz.func65, Tryz.ntmps65
 go_wp2_with fail
 refine wp_region_ext [(2, evR W a), (4, is (.bool (inTexts n (everyU W a))))] ⟨evR_stays W a, is_stays _, trivial⟩ (by kernel_rfl) (by kernel_rfl) ?_
 refine wpG_read 1 rfl rfl (.map (some b)) rfl ?_ ?_
 ·intro u hu hh
  have hq := (hu.cell (World.block_lt_of_cell? _ _ HC1.out)).trans HC1.out
  go_simp
 go_frame
 refine wpG_calc 2 rfl rfl rfl (fun u => by go_simp; rfl) ?_
 go_frame
 refine wpG_rel 3 rfl rfl rfl ?_ ?_
 ·intro u hu hh
  go_simp
  refine (every_any W b a u (HW.out.below hu) HS.out HM.out).mono ?_
  rintro e w2 ⟨v, rfl, hs2, hb2⟩
  exact ⟨_, rfl, ⟨v, rfl, hs2⟩, hb2⟩
 intro vE ⟨uE, _, hrE⟩
 obtain ⟨ve, rfl, hsl⟩ := hrE
 obtain ⟨ae, ce, rfl⟩ := hsl.val
 clear hsl
 go_frame
 refine wpG_read 4 rfl rfl (.string n) rfl ?_ ?_
 ·intro u hu hh
  have hq := (hu.cell (World.block_lt_of_cell? _ _ HC2.out)).trans HC2.out
  go_simp
 go_frame
 refine wpG_rel 5 rfl rfl rfl ?_ ?_
 ·intro u hu hh
  obtain ⟨v2, hv2, hs2⟩ : evR W a _ u := hh 2 rfl
  subst hv2
  go_simp
  refine (hasText_any _ _ _ (sortB (everyU W a)) n u hs2 HL.out).mono ?_
  rintro e w2 ⟨rfl, rfl⟩
  exact ⟨_, rfl, by rw [inT_sort]; rfl, Below.refl _ _⟩
 intro vC ⟨uC, _, hrC⟩
 obtain rfl : vC = .bool (inTexts n (everyU W a)) := hrC
 go_frame
 refine wpG_calc 6 rfl rfl rfl (fun u => by go_simp; rfl) ?_
 go_frame
 refine wpG_nil fun w' hb' hF => ?_
 clear hF
 go_wp2
 go_ret
 exact ⟨rfl, hb'⟩
def anyUp (W : WL) (n : ByteArray) (l : List ByteArray) : Bool := l.any fun a => inTexts n (everyU W a)
theorem up_yes {W : WL} {n : ByteArray} {l : List ByteArray} {k : Nat} (hk : k < l.length) (h : inTexts n (everyU W l[k]) = true) : anyUp W n (l.drop k) = true := by unfold anyUp; rw [List.drop_eq_getElem_cons hk, List.any_cons, h]; rfl
theorem up_no {W : WL} {n : ByteArray} {l : List ByteArray} {k : Nat} (hk : k < l.length) (h : inTexts n (everyU W l[k]) = false) : anyUp W n (l.drop k) = anyUp W n (l.drop (k + 1)) := by unfold anyUp; rw [List.drop_eq_getElem_cons hk, List.any_cons, h]; rfl
theorem up_end {W : WL} {n : ByteArray} {l : List ByteArray} {k : Nat} (hk : ¬ k < l.length) : anyUp W n (l.drop k) = false := by rw [List.drop_eq_nil_of_le (by omega)]; rfl
set_option maxRecDepth 100000 in
set_option maxHeartbeats 4000000 in
theorem indexR_any (W : WL) (b b1 b2 : Nat) (n : ByteArray) (va : Value) (l : List ByteArray) (w : World) (ha : Sl w va l.length 1 (l.map .string)) (hW : WAt w b W) (hs : ∀ x, (cAt W x).faces.length ≤ 1048576) (hm : most W ≤ 13000001) (hc1 : w.cell? ⟨b1, 0, none⟩ = some (.map (some b))) (hc2 : w.cell? ⟨b2, 0, none⟩ = some (.string n)) (hn : l.length ≤ 1000000000) :
  Calls Tryz.prog 85 #[va, .func (.func 65) #[] #[.pointer (some ⟨b1, 0, none⟩), .pointer (some ⟨b2, 0, none⟩)]] w fun e w' => ∃ z : Int, e = .returned (.int .i64 z) ∧ decide (0 ≤ z) = anyUp W n l ∧ Below w.heap.size w w' := by
 obtain ⟨a, c, rfl⟩ := ha.val
 have HA := hid ha; have HW := hid hW; have HS := hid hs; have HM := hid hm; have HC1 := hid hc1; have HC2 := hid hc2
 clear ha hW hs hm hc1 hc2
 go_enter Tryz.func85, Tryz.ntmps85
 go_wp2_with fail
 go_loopw [8] (fun i wr => ∃ k : Nat, k ≤ l.length ∧ i = .int .i64 k ∧ Hid (Below w.heap.size w wr) ∧ Hid (anyUp W n l = anyUp W n (l.drop k))) (fun i _ => l.length - (intOf i).toNat)
 case atStart => exact ⟨0, Nat.zero_le _, rfl, hid (Below.refl _ _), hid rfl⟩
 case round =>
  obtain ⟨k, hk, rfl, HR, HP⟩ := hrel
  by_cases hlt : k < l.length
  ·obtain ⟨bb, off, hab, hd0⟩ := text_at (HA.out.below HR.out) hlt
   subst hab
   have hi : (0 : Int) ≤ (k : Int) := by omega
   have hkl : (k : Int) < (l.length : Int) := by omega
   have HY := hid (fun h => up_yes (W := W) (n := n) hlt h)
   have HN := hid (fun h => up_no (W := W) (n := n) hlt h)
   generalize l[k] = x at hd0 HY HN
   have HT := hid (round1_any W b b1 b2 n x wr (HW.out.below HR.out) HS.out HM.out (by rw [HR.out.cell (World.block_lt_of_cell? _ _ HC1.out)]; exact HC1.out) (by rw [HR.out.cell (World.block_lt_of_cell? _ _ HC2.out)]; exact HC2.out))
   go_wp2_with fail
   refine HT.out.mono ?_
   rintro e w1 ⟨rfl, hb1⟩
   have HR1 := hid (HR.out.trans (hb1.mono HR.out.size))
   clear hb1
   by_cases h2 : inTexts n (everyU W x) = true
   ·have HT2 : Hid (anyUp W n l = true) := hid (HP.out.trans (HY.out h2))
    rw [h2]
    clear h2
    go_wp2_with fail
    go_ret
    exact ⟨_, rfl, by rw [HT2.out]; exact decide_eq_true (by omega), HR1.out⟩
   ·have h3 : inTexts n (everyU W x) = false := by simpa using h2
    have HP2 := hid (HP.out.trans (HN.out h3))
    rw [h3]
    clear h2 h3
    go_wp2_with fail
    go_roundw
    case rel => exact ⟨k + 1, by omega, by go_num, HR1, HP2⟩
    case measure => simp [intOf]; omega
  ·have HF : Hid (anyUp W n l = false) := hid (HP.out.trans (up_end hlt))
   go_wp2_with fail
   go_ret
   exact ⟨_, rfl, by rw [HF.out]; rfl, HR.out⟩
theorem containsR_any (W : WL) (b b1 b2 : Nat) (n : ByteArray) (va : Value) (l : List ByteArray) (w : World) (ha : Sl w va l.length 1 (l.map .string)) (hW : WAt w b W) (hs : ∀ x, (cAt W x).faces.length ≤ 1048576) (hm : most W ≤ 13000001) (hc1 : w.cell? ⟨b1, 0, none⟩ = some (.map (some b))) (hc2 : w.cell? ⟨b2, 0, none⟩ = some (.string n)) (hn : l.length ≤ 1000000000) :
  Calls Tryz.prog 63 #[va, .func (.func 65) #[] #[.pointer (some ⟨b1, 0, none⟩), .pointer (some ⟨b2, 0, none⟩)]] w fun e w' => e = .returned (.bool (anyUp W n l)) ∧ Below w.heap.size w w' := by
 have HI := hid (indexR_any W b b1 b2 n va l w ha hW hs hm hc1 hc2 hn)
 obtain ⟨a, c, rfl⟩ := ha.val
 clear ha hc1 hc2 hW hs hm
 go_enter Tryz.func63, Tryz.ntmps63
 go_wp2_with fail
 refine HI.out.mono ?_
 rintro e w1 ⟨z, rfl, hz, hb⟩
 have HZ := hid hz
 clear hz
 go_wp2_with fail
 go_ret
 exact ⟨by rw [← HZ.out]; rfl, hb⟩
set_option maxRecDepth 100000 in
set_option maxHeartbeats 4000000 in
theorem round_any (W : WL) (b : Nat) (n : ByteArray) (w : World) (hW : WAt w b W) (hs : ∀ x, (cAt W x).faces.length ≤ 1048576) (hm : most W ≤ 13000001) :
  Calls Tryz.prog 47 #[.map (some b), .string n] w fun e w' => e = .returned (.bool (roundW W n)) ∧ Below w.heap.size w w' := by
 have HW := hid hW; have HS := hid hs; have HM := hid hm
 obtain ⟨W1, hW1⟩ : ∃ W1, w.alloc (.cells #[.map (some b)] 65) = W1 := ⟨_, rfl⟩
 have HB1 : Hid (Below w.heap.size w W1) := hid (hW1 ▸ ext_alloc _ _)
 have hlt1 : w.heap.size < W1.heap.size := by rw [← hW1]; simp
 have hr1 : W1.heap[w.heap.size]? = some (.cells #[.map (some b)] 65 (0, 0)) := hW1 ▸ heap_alloc_new _ _
 obtain ⟨W2, hW2⟩ : ∃ W2, W1.alloc (.cells #[.string n] 9) = W2 := ⟨_, rfl⟩
 have HB12 : Hid (Below W1.heap.size W1 W2) := hid (hW2 ▸ ext_alloc _ _)
 have HB2 := hid (HB1.out.trans (HB12.out.mono HB1.out.size))
 have hr2 : W2.heap[W1.heap.size]? = some (.cells #[.string n] 9 (0, 0)) := hW2 ▸ heap_alloc_new _ _
 have k1 : W2.cell? ⟨w.heap.size, 0, none⟩ = some (.map (some b)) := by rw [HB12.out.cell hlt1, cell_of_row _ _ _ _ _ _ hr1]; rfl
 have k2 : W2.cell? ⟨W1.heap.size, 0, none⟩ = some (.string n) := by rw [cell_of_row _ _ _ _ _ _ hr2]; rfl
 have hlt2 : W1.heap.size < W2.heap.size := by rw [← hW2]; simp
 have hAl : (above W n).length ≤ 1048577 := by
  have := hs n
  unfold above aboveC
  split
  ·omega
  ·simp only [List.length_cons]; omega
 have HAL := hid hAl
 have HK1 := hid k1; have HK2 := hid k2; have HL1 := hid hlt1; have HL2 := hid hlt2
 clear hW hs hm hr1 hr2 hAl
 go_enter Tryz.func47, Tryz.ntmps47
 go_wp2_with fail
 refine (above_any W b n _ (HW.out.below HB2.out) (HS.out n)).mono ?_
 rintro e w3 ⟨vA, rfl, hsa, hb3, -⟩
 have HB3 := hid (HB2.out.trans (hb3.mono HB2.out.size))
 have HSA := hid hsa
 have q1 := hid ((hb3.cell (Nat.lt_trans HL1.out HL2.out)).trans HK1.out)
 have q2 := hid ((hb3.cell HL2.out).trans HK2.out)
 clear hb3 hsa
 go_wp2_with fail
 refine (containsR_any W b w.heap.size W1.heap.size n vA (above W n) _ HSA.out (HW.out.below HB3.out) HS.out HM.out q1.out q2.out (by have := HAL.out; omega)).mono ?_
 rintro e w4 ⟨rfl, hb4⟩
 have HB4 := hid (HB3.out.trans (hb4.mono HB3.out.size))
 clear hb4
 go_wp2
 go_ret
 exact ⟨rfl, HB4.out⟩
end Go.Proofs.YtlhobhnbgdicjaaGreatDoor.worlds
namespace Go.Proofs.YtlhobhnbgdicjaaGreatDoor.worlds
open Go.RowKit lib maps classes errs ins
theorem cls_at {w : World} {a : Option Addr} {n c : Nat} {l : List CV} (h : Clss w (.slice a n c) l) {k : Nat} (hk : k < l.length) :
  ∃ b off, a = some ⟨b, off, none⟩ ∧ w.cell? ⟨b, off + k * 6, none⟩ = some (.string l[k].nm) ∧ w.cell? ⟨b, off + k * 6 + 1, none⟩ = some (.string l[k].sup) ∧ w.cell? ⟨b, off + k * 6 + 2, none⟩ = some l[k].vf ∧
   w.cell? ⟨b, off + k * 6 + 3, none⟩ = some (.bool l[k].face) ∧ w.cell? ⟨b, off + k * 6 + 4, none⟩ = some l[k].vd ∧ w.cell? ⟨b, off + k * 6 + 5, none⟩ = some l[k].vm := by
 obtain ⟨b, off, ha, hc⟩ := row_at (cells := CV.cells) (sz := 6) (fun _ => rfl) h.sl hk (by decide)
 refine ⟨b, off, ha, ?_, ?_, ?_, ?_, ?_, ?_⟩
 ·have := hc 0 (by decide); rw [Nat.add_zero] at this; exact this
 ·have := hc 1 (by decide); rw [← Nat.add_assoc] at this; exact this
 ·have := hc 2 (by decide); rw [← Nat.add_assoc] at this; exact this
 ·have := hc 3 (by decide); rw [← Nat.add_assoc] at this; exact this
 ·have := hc 4 (by decide); rw [← Nat.add_assoc] at this; exact this
 ·have := hc 5 (by decide); rw [← Nat.add_assoc] at this; exact this
theorem Clss.val {w : World} {v : Value} {l : List CV} (h : Clss w v l) : ∃ a c, v = .slice a l.length c := h.sl.val
def ReadBy (w : World) (l : List CV) (e : Ending) (w' : World) : Prop :=
 Below w.heap.size w w' ∧ (if (readW l).1 = 0 then e = .returned (.tuple #[.map (some w.heap.size), .nilIface]) ∧ WAt w' w.heap.size (readW l).2 else e = .returned (.tuple #[.map none, errVal (readW l).1]))
theorem readBy_err {w w' : World} {l : List CV} {z : Int} (h : (readW l).1 = z) (hz : z ≠ 0) (hb : Below w.heap.size w w') : ReadBy w l (.returned (.tuple #[.map none, .iface 28 (.int .i64 z)])) w' := by
 refine ⟨hb, ?_⟩
 rw [h, if_neg hz]
 unfold errVal
 rw [if_neg hz]
theorem readBy_ok {w w' : World} {l : List CV} {V : WL} (h : readW l = (0, V)) (hb : Below w.heap.size w w') (hv : WAt w' w.heap.size V) : ReadBy w l (.returned (.tuple #[.map (some w.heap.size), .nilIface])) w' := by
 refine ⟨hb, ?_⟩
 rw [h]
 exact ⟨rfl, hv⟩
theorem read_many {l : List CV} (h : 10 < l.length) : (readW l).1 = 4 := by unfold readW; rw [if_pos h]
theorem read_load {l : List CV} {z : Int} (h : ¬ 10 < l.length) (h1 : (load firstW l).1 = z) (hz : z ≠ 0) : (readW l).1 = z := by unfold readW; rw [if_neg h, if_pos (by rw [h1]; exact hz)]; exact h1
theorem read_join {l : List CV} {V : WL} {z : Int} (h : ¬ 10 < l.length) (h1 : load firstW l = (0, V)) (h2 : firstF (joinFault V) l = z) (hz : z ≠ 0) : (readW l).1 = z := by
 unfold readW; rw [if_neg h, h1, if_neg (by simp), if_pos (by rw [h2]; exact hz)]; exact h2
theorem read_round {l : List CV} {V : WL} (h : ¬ 10 < l.length) (h1 : load firstW l = (0, V)) (h2 : firstF (joinFault V) l = 0) (h3 : firstF (roundFault V) l ≠ 0) : (readW l).1 = 6 := by
 unfold readW; rw [if_neg h, h1, if_neg (by simp), if_neg (by rw [h2]; simp), if_pos h3]
theorem read_ok {l : List CV} {V : WL} (h : ¬ 10 < l.length) (h1 : load firstW l = (0, V)) (h2 : firstF (joinFault V) l = 0) (h3 : firstF (roundFault V) l = 0) : readW l = (0, V) := by
 unfold readW; rw [if_neg h, h1, if_neg (by simp), if_neg (by rw [h2]; simp), if_neg (by rw [h3]; simp)]
structure LdRel (w wr : World) (l : List CV) (k : Nat) (W : WL) : Prop where
 below : Below w.heap.size w wr
 at_ : WAt wr w.heap.size W
 all : ∀ p ∈ W, p.2.At w ∧ p.2.faces.length ≤ 1048576
 eq : load firstW l = load W (l.drop k)
set_option maxRecDepth 100000 in
set_option maxHeartbeats 16000000 in
theorem read_any (va : Value) (l : List CV) (w : World) (hl : Clss w va l) (hf : FormsAt w) (hsm : ∀ c ∈ l, SmallC c) (hn : l.length ≤ 1048576) :
  Calls Tryz.prog 28 #[va] w (ReadBy w l) := by
 obtain ⟨a, cap, rfl⟩ := hl.val
 have HL := hid hl; have HF := hid hf; have HSM := hid hsm
 clear hl hf hsm
 by_cases h10 : 10 < l.length
 ·have hz := hid (read_many h10)
  have h1 : (10 : Int) < (l.length : Int) := by omega
  clear h10
  go_enter Tryz.func28, Tryz.ntmps28
  go_wp2
  go_ret2
  exact readBy_err hz.out (by decide) (Below.refl _ _)
 have H10 := hid h10
 have h1 : ¬ (10 : Int) < (l.length : Int) := by omega
 have hl10 : l.length ≤ 10 := by omega
 clear h10
 go_enter Tryz.func28, Tryz.ntmps28
 go_wp2_with fail
 refine (first_any w).mono ?_
 rintro e w1 ⟨rfl, hw1, hb1⟩
 have HR0 : Hid (LdRel w w1 l 0 firstW) := hid ⟨hb1, hw1, fun p hp => by
  rcases List.mem_cons.1 hp with rfl | hp
  ·exact ⟨obj_at w, by simp [objC, zeroC]⟩
  ·obtain rfl := List.mem_singleton.1 hp
   exact ⟨flt_at w, by simp [fltC, zeroC]⟩, rfl⟩
 clear hw1 hb1
 go_wp2
 go_loopw [22] (fun v wr => ∃ (k : Nat) (W : WL), k ≤ l.length ∧ v = .int .i64 (k : Int) ∧ Hid (LdRel w wr l k W)) (fun v _ => l.length - (intOf v).toNat)
 case atStart => exact ⟨0, firstW, Nat.zero_le _, rfl, HR0⟩
 case round =>
  obtain ⟨k, W, hk, rfl, HR⟩ := hrel
  clear HR0
  obtain ⟨wa, hwa⟩ : ∃ wa, wa = wr := ⟨_, rfl⟩
  subst hwa
  have hk0 : (0 : Int) ≤ (k : Int) := by omega
  by_cases hlt : k < l.length
  ·have hk1 : (k : Int) < (l.length : Int) := by omega
   obtain ⟨bb, off, hab, hd0, hd1, hd2, hd3, hd4, hd5⟩ := cls_at (HL.out.below HR.out.below) hlt
   subst hab
   have hcat : l[k].At w := HL.out.at_ _ (List.getElem_mem hlt)
   have hcs : SmallC l[k] := HSM.out _ (List.getElem_mem hlt)
   have HB := hid (fun h => load_bad (W := W) hlt h)
   have HT := hid (fun h h2 => load_twice (W := W) hlt h h2)
   have HO := hid (fun h h2 => load_ok (W := W) hlt h h2)
   generalize l[k] = c at hd0 hd1 hd2 hd3 hd4 hd5 hcat hcs HB HT HO
   have HC := hid hcat; have HCS := hid hcs
   obtain ⟨nm, sup, vf, face, vd, vm, faces, fields, mets⟩ := c
   obtain ⟨a1, c1, a2, c2, a3, c3, e1, e2, e3⟩ := cls_vals hcat
   simp only at e1 e2 e3 hd0 hd1 hd2 hd3 hd4 hd5
   subst e1 e2 e3
   clear hcat hcs
   obtain ⟨W3, hW3⟩ : ∃ W3, wa.alloc (.cells #[.string nm, .string sup, .slice a1 faces.length c1, .bool face, .slice a2 fields.length c2, .slice a3 mets.length c3] 74) = W3 := ⟨_, rfl⟩
   have HBa : Hid (Below wa.heap.size wa W3) := hid (hW3 ▸ ext_alloc _ _)
   have HB3 := hid (HR.out.below.trans (HBa.out.mono HR.out.below.size))
   have HLT : Hid (wa.heap.size < W3.heap.size) := hid (by rw [← hW3]; simp)
   have HR3 : Hid (W3.heap[wa.heap.size]? = some (.cells #[.string nm, .string sup, .slice a1 faces.length c1, .bool face, .slice a2 fields.length c2, .slice a3 mets.length c3] 74 (0, 0))) := hid (hW3 ▸ heap_alloc_new _ _)
   have HX : Hid (∀ u, Below W3.heap.size W3 u → u.cell? ⟨wa.heap.size, 0, none⟩ = some (.string nm) ∧ u.cell? ⟨wa.heap.size, 1, none⟩ = some (.string sup) ∧ u.cell? ⟨wa.heap.size, 2, none⟩ = some (.slice a1 faces.length c1) ∧ u.cell? ⟨wa.heap.size, 3, none⟩ = some (.bool face) ∧ u.cell? ⟨wa.heap.size, 4, none⟩ = some (.slice a2 fields.length c2) ∧ u.cell? ⟨wa.heap.size, 5, none⟩ = some (.slice a3 mets.length c3)) := hid (fun u hu => by
    have h := (hu.block _ HLT.out).trans HR3.out
    refine ⟨?_, ?_, ?_, ?_, ?_, ?_⟩ <;> (rw [cell_of_row _ _ _ _ _ _ h]; rfl))
   obtain ⟨x0, x1, x2, x3, x4, x5⟩ := HX.out _ (Below.refl _ _)
   have HCHK := hid (ccheck_any ⟨nm, sup, .slice a1 faces.length c1, face, .slice a2 fields.length c2, .slice a3 mets.length c3, faces, fields, mets⟩ W3 (HC.out.below HB3.out) (HF.out.below HB3.out) HCS.out)
   go_wp2_with fail
   refine HCHK.out.mono ?_
   rintro e w4 ⟨rfl, hb4⟩
   have HB4 := hid (HB3.out.trans (hb4.mono HB3.out.size))
   have HW4 := hid (HR.out.at_.below ((HBa.out.trans (hb4.mono HBa.out.size))))
   obtain ⟨x0, x1, x2, x3, x4, x5⟩ := HX.out _ hb4
   have H34 := hid hb4
   clear hb4 HCHK
   obtain ⟨z, hz⟩ : ∃ z, clsFault ⟨nm, sup, .slice a1 faces.length c1, face, .slice a2 fields.length c2, .slice a3 mets.length c3, faces, fields, mets⟩ = z := ⟨_, rfl⟩
   rw [hz] at HB HT HO ⊢
   clear hz
   by_cases h0 : z = 0
   ·subst h0
    rw [show errVal 0 = .nilIface from rfl]
    obtain ⟨nm4, sup4, b1, m1, d1, fc4, b2, m2, d2, b3, m3, d3, _, _, hlk⟩ := look_ok HW4.out nm
    by_cases h5 : (getK W nm).isSome = true
    ·rw [h5] at hlk
     have HE : Hid ((readW l).1 = 5) := hid (read_load H10.out (by rw [HR.out.eq, HT.out rfl h5]) (by decide))
     clear h5
     go_wp2
     go_ret2
     exact readBy_err HE.out (by decide) (HB4.out.alloc HB4.out.size _)
    ·have hn5 : (getK W nm).isSome = false := by simpa using h5
     rw [hn5] at hlk
     have HE := hid (HO.out rfl h5)
     clear h5 hn5
     obtain ⟨W5, hW5⟩ : ∃ W5, w4.alloc (.cells #[.string nm4, .string sup4, .slice b1 m1 d1, .bool fc4, .slice b2 m2 d2, .slice b3 m3 d3] 74) = W5 := ⟨_, rfl⟩
     have HB45 : Hid (Below w4.heap.size w4 W5) := hid (hW5 ▸ ext_alloc _ _)
     have HB5 := hid (HB4.out.trans (HB45.out.mono HB4.out.size))
     have HW5 := hid (HW4.out.below HB45.out)
     obtain ⟨x0, x1, x2, x3, x4, x5⟩ := HX.out _ (H34.out.trans (HB45.out.mono H34.out.size))
     obtain ⟨u6, r6, m6, b6⟩ := world_set HW5.out HB5.out (Nat.le_refl _) (Nat.le_refl _) nm ⟨nm, sup, .slice a1 faces.length c1, face, .slice a2 fields.length c2, .slice a3 mets.length c3, faces, fields, mets⟩ HC.out (fun p hp => (HR.out.all p hp).1) rfl
     have r6' : (Instr.mapUpdate 65 (.map (some w.heap.size)) (.string nm) (.agg #[.string nm, .string sup, .slice a1 faces.length c1, .bool face, .slice a2 fields.length c2, .slice a3 mets.length c3])).run Tryz.prog W5 = .ok () u6 := r6
     have HN : Hid (LdRel w u6 l (k + 1) (setK W nm ⟨nm, sup, .slice a1 faces.length c1, face, .slice a2 fields.length c2, .slice a3 mets.length c3, faces, fields, mets⟩)) := hid ⟨b6, m6, fun p hp => by
      rcases mem_set hp with hp | rfl
      ·exact HR.out.all p hp
      ·exact ⟨HC.out, HCS.out.flen⟩, HR.out.eq.trans HE.out⟩
     clear r6 m6 b6
     go_wp2_with fail
     go_roundw
     case rel => exact ⟨k + 1, _, by omega, by simp, HN⟩
     case measure => simp [intOf]; omega
   ·rw [show errVal z = .iface 28 (.int .i64 z) from by unfold errVal; rw [if_neg h0]]
    have HE : Hid ((readW l).1 = z) := hid (read_load H10.out (by rw [HR.out.eq, HB.out h0]) h0)
    have HZ0 := hid h0
    clear h0
    go_wp2
    go_ret2
    exact readBy_err HE.out HZ0.out HB4.out
  ·obtain rfl : k = l.length := by omega
   have HV : Hid (load firstW l = (0, W)) := hid (by rw [HR.out.eq, load_end (by omega)])
   have HB0 := hid HR.out.below
   have HW0 := hid HR.out.at_
   have HFS : Hid (∀ x, (cAt W x).faces.length ≤ 1048576) := hid (fun x => by
    unfold cAt
    cases hg : getK W x with
    | none => simp [zeroC]
    | some c => exact (HR.out.all _ (getK_mem hg)).2)
   have HMO : Hid (most W ≤ 13000001) := hid (by
    have h := load_len HV.out
    have e : firstW.length = 2 := rfl
    exact Nat.le_trans (most_small (by omega) (fun p hp => (HR.out.all p hp).2)) (by omega))
   clear hlt HR
   go_wp2
   go_loopw [47] (fun v wr => ∃ k : Nat, k ≤ l.length ∧ v = .int .i64 (k : Int) ∧ Hid (Below wa.heap.size wa wr) ∧ Hid (firstF (joinFault W) (l.drop k) = firstF (joinFault W) l)) (fun v _ => l.length - (intOf v).toNat)
   case atStart => exact ⟨0, Nat.zero_le _, rfl, hid (Below.refl _ _), hid rfl⟩
   case round =>
    obtain ⟨k, hk, rfl, HBv, HFF⟩ := hrel
    obtain ⟨wb, hwb⟩ : ∃ wb, wb = wr := ⟨_, rfl⟩
    subst hwb
    have HBw := hid (HB0.out.trans (HBv.out.mono HB0.out.size))
    by_cases hlt : k < l.length
    ·have hk0 : (0 : Int) ≤ (k : Int) := by omega
     have hk1 : (k : Int) < (l.length : Int) := by omega
     obtain ⟨bb, off, hab, hd0, hd1, hd2, hd3, hd4, hd5⟩ := cls_at (HL.out.below HBw.out) hlt
     subst hab
     have hcat : l[k].At w := HL.out.at_ _ (List.getElem_mem hlt)
     have hcs : SmallC l[k] := HSM.out _ (List.getElem_mem hlt)
     have HY := hid (fun h => ff_no (f := joinFault W) hlt h)
     have HN := hid (fun h => ff_ok (f := joinFault W) hlt h)
     generalize l[k] = c at hd0 hd1 hd2 hd3 hd4 hd5 hcat hcs HY HN
     have HC := hid hcat; have HCS := hid hcs
     obtain ⟨nm, sup, vf, face, vd, vm, faces, fields, mets⟩ := c
     obtain ⟨a1, c1, a2, c2, a3, c3, e1, e2, e3⟩ := cls_vals hcat
     simp only at e1 e2 e3 hd0 hd1 hd2 hd3 hd4 hd5
     subst e1 e2 e3
     clear hcat hcs
     obtain ⟨W3, hW3⟩ : ∃ W3, wb.alloc (.cells #[.string nm, .string sup, .slice a1 faces.length c1, .bool face, .slice a2 fields.length c2, .slice a3 mets.length c3] 74) = W3 := ⟨_, rfl⟩
     have HBa : Hid (Below wb.heap.size wb W3) := hid (hW3 ▸ ext_alloc _ _)
     have HB3 := hid (HBw.out.trans (HBa.out.mono HBw.out.size))
     have hlt3 : wb.heap.size < W3.heap.size := by rw [← hW3]; simp
     have hr3 : W3.heap[wb.heap.size]? = some (.cells #[.string nm, .string sup, .slice a1 faces.length c1, .bool face, .slice a2 fields.length c2, .slice a3 mets.length c3] 74 (0, 0)) := hW3 ▸ heap_alloc_new _ _
     have x0 : W3.cell? ⟨wb.heap.size, 0, none⟩ = some (.string nm) := by rw [cell_of_row _ _ _ _ _ _ hr3]; rfl
     have x1 : W3.cell? ⟨wb.heap.size, 1, none⟩ = some (.string sup) := by rw [cell_of_row _ _ _ _ _ _ hr3]; rfl
     have x2 : W3.cell? ⟨wb.heap.size, 2, none⟩ = some (.slice a1 faces.length c1) := by rw [cell_of_row _ _ _ _ _ _ hr3]; rfl
     have x3 : W3.cell? ⟨wb.heap.size, 3, none⟩ = some (.bool face) := by rw [cell_of_row _ _ _ _ _ _ hr3]; rfl
     have x4 : W3.cell? ⟨wb.heap.size, 4, none⟩ = some (.slice a2 fields.length c2) := by rw [cell_of_row _ _ _ _ _ _ hr3]; rfl
     have x5 : W3.cell? ⟨wb.heap.size, 5, none⟩ = some (.slice a3 mets.length c3) := by rw [cell_of_row _ _ _ _ _ _ hr3]; rfl
     have HWW := hid (HW0.out.below (HBv.out.trans (HBa.out.mono HBv.out.size)))
     clear hr3
     go_wp2_with fail
     refine (joined_any W w.heap.size ⟨nm, sup, .slice a1 faces.length c1, face, .slice a2 fields.length c2, .slice a3 mets.length c3, faces, fields, mets⟩ W3 HWW.out (HC.out.below HB3.out) HCS.out.flen).mono ?_
     rintro e w4 ⟨rfl, hb4⟩
     have HB4 := hid (HB3.out.trans (hb4.mono HB3.out.size))
     have HV4 := hid (HBv.out.trans ((HBa.out.trans (hb4.mono HBa.out.size)).mono HBv.out.size))
     clear hb4
     obtain ⟨z, hz⟩ : ∃ z, joinFault W ⟨nm, sup, .slice a1 faces.length c1, face, .slice a2 fields.length c2, .slice a3 mets.length c3, faces, fields, mets⟩ = z := ⟨_, rfl⟩
     rw [hz] at HY HN ⊢
     clear hz
     by_cases h0 : z = 0
     ·have HN2 := hid ((HN.out h0).symm.trans HFF.out)
      rw [show errVal z = .nilIface from by unfold errVal; rw [if_pos h0]]
      clear h0
      go_wp2_with fail
      go_roundw
      case rel => exact ⟨k + 1, by omega, by simp, HV4, HN2⟩
      case measure => simp [intOf]; omega
     ·rw [show errVal z = .iface 28 (.int .i64 z) from by unfold errVal; rw [if_neg h0]]
      have HE : Hid ((readW l).1 = z) := hid (read_join H10.out HV.out (by rw [← HFF.out, HY.out h0]) h0)
      have HZ0 := hid h0
      clear h0
      go_wp2
      go_ret2
      exact readBy_err HE.out HZ0.out HB4.out
    ·obtain rfl : k = l.length := by omega
     have HJ : Hid (firstF (joinFault W) l = 0) := hid (by rw [← HFF.out, ff_end hlt])
     have HW0b := hid (HW0.out.below HBv.out)
     clear hlt HFF HW0 HBv HB0 hk
     have HW0 := HW0b
     have HB0 := HBw
     clear HW0b HBw
     go_wp2
     go_loopw [60] (fun v wr => ∃ k : Nat, k ≤ l.length ∧ v = .int .i64 (k : Int) ∧ Hid (Below wb.heap.size wb wr) ∧ Hid (firstF (roundFault W) (l.drop k) = firstF (roundFault W) l)) (fun v _ => l.length - (intOf v).toNat)
     case atStart => exact ⟨0, Nat.zero_le _, rfl, hid (Below.refl _ _), hid rfl⟩
     case round =>
      obtain ⟨k, hk, rfl, HBv, HFF⟩ := hrel
      obtain ⟨wd, hwd⟩ : ∃ wd, wd = wr := ⟨_, rfl⟩
      subst hwd
      have HBw := hid (HB0.out.trans (HBv.out.mono HB0.out.size))
      by_cases hlt : k < l.length
      ·have hk0 : (0 : Int) ≤ (k : Int) := by omega
       have hk1 : (k : Int) < (l.length : Int) := by omega
       obtain ⟨bb, off, hab, hd0, hd1, hd2, hd3, hd4, hd5⟩ := cls_at (HL.out.below HBw.out) hlt
       subst hab
       have hcat : l[k].At w := HL.out.at_ _ (List.getElem_mem hlt)
       have hcs : SmallC l[k] := HSM.out _ (List.getElem_mem hlt)
       have HY := hid (fun h => ff_no (f := roundFault W) hlt h)
       have HN := hid (fun h => ff_ok (f := roundFault W) hlt h)
       generalize l[k] = c at hd0 hd1 hd2 hd3 hd4 hd5 hcat hcs HY HN
       have HC := hid hcat; have HCS := hid hcs
       obtain ⟨nm, sup, vf, face, vd, vm, faces, fields, mets⟩ := c
       obtain ⟨a1, c1, a2, c2, a3, c3, e1, e2, e3⟩ := cls_vals hcat
       simp only at e1 e2 e3 hd0 hd1 hd2 hd3 hd4 hd5
       subst e1 e2 e3
       clear hcat hcs
       obtain ⟨W3, hW3⟩ : ∃ W3, wd.alloc (.cells #[.string nm, .string sup, .slice a1 faces.length c1, .bool face, .slice a2 fields.length c2, .slice a3 mets.length c3] 74) = W3 := ⟨_, rfl⟩
       have HBa : Hid (Below wd.heap.size wd W3) := hid (hW3 ▸ ext_alloc _ _)
       have HB3 := hid (HBw.out.trans (HBa.out.mono HBw.out.size))
       have hlt3 : wd.heap.size < W3.heap.size := by rw [← hW3]; simp
       have hr3 : W3.heap[wd.heap.size]? = some (.cells #[.string nm, .string sup, .slice a1 faces.length c1, .bool face, .slice a2 fields.length c2, .slice a3 mets.length c3] 74 (0, 0)) := hW3 ▸ heap_alloc_new _ _
       have x0 : W3.cell? ⟨wd.heap.size, 0, none⟩ = some (.string nm) := by rw [cell_of_row _ _ _ _ _ _ hr3]; rfl
       have x1 : W3.cell? ⟨wd.heap.size, 1, none⟩ = some (.string sup) := by rw [cell_of_row _ _ _ _ _ _ hr3]; rfl
       have x2 : W3.cell? ⟨wd.heap.size, 2, none⟩ = some (.slice a1 faces.length c1) := by rw [cell_of_row _ _ _ _ _ _ hr3]; rfl
       have x3 : W3.cell? ⟨wd.heap.size, 3, none⟩ = some (.bool face) := by rw [cell_of_row _ _ _ _ _ _ hr3]; rfl
       have x4 : W3.cell? ⟨wd.heap.size, 4, none⟩ = some (.slice a2 fields.length c2) := by rw [cell_of_row _ _ _ _ _ _ hr3]; rfl
       have x5 : W3.cell? ⟨wd.heap.size, 5, none⟩ = some (.slice a3 mets.length c3) := by rw [cell_of_row _ _ _ _ _ _ hr3]; rfl
       have HWW := hid (HW0.out.below (HBv.out.trans (HBa.out.mono HBv.out.size)))
       clear hr3
       go_wp2_with fail
       refine (round_any W w.heap.size nm W3 HWW.out HFS.out HMO.out).mono ?_
       rintro e w4 ⟨rfl, hb4⟩
       have HB4 := hid (HB3.out.trans (hb4.mono HB3.out.size))
       have HV4 := hid (HBv.out.trans ((HBa.out.trans (hb4.mono HBa.out.size)).mono HBv.out.size))
       clear hb4
       by_cases h0 : roundW W nm = true
       ·rw [h0]
        have HE : Hid ((readW l).1 = 6) := hid (read_round H10.out HV.out HJ.out (by
         rw [← HFF.out, HY.out (by unfold roundFault; rw [if_pos h0]; decide)]
         unfold roundFault; rw [if_pos h0]; decide))
        clear h0
        go_wp2
        go_ret2
        exact readBy_err HE.out (by decide) HB4.out
       ·have h1 : roundW W nm = false := by simpa using h0
        have HN2 := hid ((HN.out (by unfold roundFault; rw [if_neg h0])).symm.trans HFF.out)
        rw [h1]
        clear h0 h1
        go_wp2_with fail
        go_roundw
        case rel => exact ⟨k + 1, by omega, by simp, HV4, HN2⟩
        case measure => simp [intOf]; omega
      ·obtain rfl : k = l.length := by omega
       have HR : Hid (firstF (roundFault W) l = 0) := hid (by rw [← HFF.out, ff_end hlt])
       have HWE := hid (HW0.out.below HBv.out)
       clear hlt HFF
       go_wp2
       go_ret2
       exact readBy_ok (read_ok H10.out HV.out HJ.out HR.out) HBw.out HWE.out
end Go.Proofs.YtlhobhnbgdicjaaGreatDoor.worlds
namespace Go.Proofs.YtlhobhnbgdicjaaGreatDoor.worlds
open Go.RowKit lib maps classes errs descs names
theorem right_parts {l : List UInt8} (h : isTy l = true) : ∃ p t, l = p ++ t ∧ (∀ y ∈ p, y = 91) ∧ p.length ≤ 3 ∧ Core t ∧ coreB l = t := by
 simp only [isTy, decide_eq_true_eq] at h
 obtain ⟨p, t, r, rfl, hp, h3, ht⟩ := parts h.1
 have h1 := core_tail hp h3 ht r
 have hr : r = [] := by
  have h2 := h.2
  rw [h1, List.length_append, List.length_append] at h2
  exact List.eq_nil_of_length_eq_zero (by omega)
 subst hr
 rw [List.append_nil] at *
 refine ⟨p, t, rfl, hp, h3, ht, ?_⟩
 unfold coreB
 rcases ht with rfl | rfl | ⟨nm, rfl, _⟩
 ·exact dw hp (by decide)
 ·exact dw hp (by decide)
 ·exact dw hp (by decide)
theorem refs_any (k : ByteArray) (w : World) : Calls Tryz.prog 49 #[.string k] w fun e w' => e = .returned (.bool (refs k.data.toList)) ∧ w = w' := by
 have H1 : Hid (Calls Tryz.prog 67 #[.string k, .string { data := #[76] }] w fun e w' => e = .returned (.bool (decide (k.data.toList.head? = some 76))) ∧ w = w') := hid (by
  refine (Tryz.strings_HasPrefix k { data := #[76] } w).mono ?_
  rintro e w' ⟨rfl, rfl⟩
  exact ⟨by rw [← prefix_one], rfl⟩)
 have H2 : Hid (Calls Tryz.prog 67 #[.string k, .string { data := #[91] }] w fun e w' => e = .returned (.bool (decide (k.data.toList.head? = some 91))) ∧ w = w') := hid (by
  refine (Tryz.strings_HasPrefix k { data := #[91] } w).mono ?_
  rintro e w' ⟨rfl, rfl⟩
  exact ⟨by rw [← prefix_one], rfl⟩)
 obtain ⟨b1, hb1⟩ : ∃ b1, decide (k.data.toList.head? = some 76) = b1 := ⟨_, rfl⟩
 obtain ⟨b2, hb2⟩ : ∃ b2, decide (k.data.toList.head? = some 91) = b2 := ⟨_, rfl⟩
 have HR : Hid (refs k.data.toList = (b1 || b2)) := hid (by unfold refs; rw [hb1, hb2])
 rw [hb1] at H1
 rw [hb2] at H2
 clear hb1 hb2
 go_enter Tryz.func49, Tryz.ntmps49
 go_wp2_with fail
 refine H1.out.mono ?_
 rintro e w1 ⟨rfl, rfl⟩
 cases b1 with
 | true =>
  go_wp2
  go_ret
  exact ⟨by rw [HR.out]; rfl, rfl⟩
 | false =>
  go_wp2_with fail
  refine H2.out.mono ?_
  rintro e w2 ⟨rfl, rfl⟩
  go_wp2
  go_ret
  exact ⟨by rw [HR.out]; rfl, rfl⟩
theorem thing_cat (c : ByteArray) : (⟨#[76]⟩ : ByteArray) ++ c ++ ⟨#[59]⟩ = bs (thingB c) := by
 apply ByteArray.ext
 rw [ByteArray.data_append, ByteArray.data_append]
 apply Array.toList_inj.1
 simp [bs, thingB]
theorem thing_any (c : ByteArray) (w : World) (hc : c.size ≤ 10000000) : Calls Tryz.prog 30 #[.string c] w fun e w' => e = .returned (.string (bs (thingB c))) ∧ w = w' := by
 go_enter Tryz.func30, Tryz.ntmps30
 go_wp2
 go_ret
 refine ⟨?_, rfl⟩
 show Ending.returned (.string ((⟨#[76]⟩ : ByteArray) ++ c ++ ⟨#[59]⟩)) = _
 rw [thing_cat]
theorem class_any (s : ByteArray) (w : World) (hs : isTy s.data.toList = true) : Calls Tryz.prog 68 #[.string s] w fun e w' => e = .returned (.string (classN s.data.toList)) ∧ w = w' := by
 obtain ⟨p, t, hpt, hp, h3, ht, hcore⟩ := right_parts hs
 have HC : Hid (Lib.trimLeftB s.data.toList 91 = t) := hid hcore
 have HN : Hid (classN s.data.toList = bs (if isWd t = true then [] else (t.drop 1).dropLast)) := hid (by unfold classN classB; rw [hcore])
 obtain ⟨T, hT⟩ : ∃ T : ByteArray, (⟨t.toArray⟩ : ByteArray) = T := ⟨_, rfl⟩
 have hTl : T.data.toList = t := by rw [← hT]
 have HT := hid hT
 by_cases hw : isWd t = true
 ·have HW : Hid (isWd T.data.toList = true) := hid (by rw [hTl]; exact hw)
  have HN2 : Hid (classN s.data.toList = ⟨#[]⟩) := hid (by rw [HN.out, if_pos hw]; rfl)
  clear hpt hcore hT hTl hw ht
  go_enter Tryz.func68, Tryz.ntmps68
  go_wp2_with fail
  refine (Tryz.strings_TrimLeft_one s 91 (by decide) w).mono ?_
  rintro e w1 ⟨rfl, rfl⟩
  rw [HC.out, HT.out]
  go_wp2_with fail
  refine (number_any T _).mono ?_
  rintro e w2 ⟨rfl, rfl⟩
  rw [HW.out]
  go_wp2
  go_ret
  exact ⟨by rw [HN2.out]; rfl, rfl⟩
 ·obtain ⟨nm, rfl, hnm⟩ : ∃ nm, t = 76 :: (nm ++ [59]) ∧ nameOk nm = true := by
   rcases ht with rfl | rfl | h
   ·exact absurd rfl hw
   ·exact absurd rfl hw
   ·exact h
  have hwf : isWd T.data.toList = false := by rw [hTl]; simpa using hw
  have HW := hid hwf
  have hsz : T.size = nm.length + 2 := by
   show T.data.size = _
   rw [← Array.length_toList, hTl]; simp
  have HN2 : Hid (classN s.data.toList = T.extract 1 (nm.length + 1)) := hid (by
   rw [HN.out, if_neg hw]
   have : (T.extract 1 (nm.length + 1)).data.toList = nm := by
    rw [ByteArray.data_extract, Array.toList_extract, hTl]
    simp [List.extract]
   have e2 : (List.drop 1 (76 :: (nm ++ [59]))).dropLast = nm := by simp
   rw [e2]
   cases hx : T.extract 1 (nm.length + 1) with
   | mk d =>
    rw [hx] at this
    unfold bs
    congr 1
    rw [← this])
  have hnl : nm.length ≤ 20 := by
   simp only [nameOk, Bool.and_eq_true, decide_eq_true_eq] at hnm
   exact hnm.1.1.2
  have hwm : wrap64 ((nm.length : Int) + 2 - 1) = (nm.length : Int) + 1 := by unfold wrap64; omega
  have hwn : ((nm.length : Int) + 1).toNat = nm.length + 1 := by omega
  have hn0 : (0 : Int) ≤ (nm.length : Int) := by omega
  clear hpt hcore hT hTl hw hwf hnm
  go_enter Tryz.func68, Tryz.ntmps68
  go_wp2_with fail
  refine (Tryz.strings_TrimLeft_one s 91 (by decide) w).mono ?_
  rintro e w1 ⟨rfl, rfl⟩
  rw [HC.out, HT.out]
  go_wp2_with fail
  refine (number_any T _).mono ?_
  rintro e w2 ⟨rfl, rfl⟩
  rw [HW.out]
  go_wp2
  go_ret
  exact ⟨by rw [HN2.out]; first | rfl | (simp [hwm, hwn]; done), rfl⟩
end Go.Proofs.YtlhobhnbgdicjaaGreatDoor.worlds
namespace Go.Proofs.YtlhobhnbgdicjaaGreatDoor.worlds
open Go.RowKit lib maps classes errs descs names
theorem clsN_no (t : List UInt8) : classN t = noB ↔ classB t = [] := by
 unfold classN bs noB
 constructor
 ·intro h
  have := congrArg (fun x : ByteArray => x.data.toList) h
  simpa using this
 ·intro h; rw [h]
set_option maxRecDepth 100000 in
set_option maxHeartbeats 4000000 in
theorem kind_any (W : WL) (b : Nat) (k : ByteArray) (w : World) (hW : WAt w b W) (hk : k.size ≤ 9223372036854775807) :
  Calls Tryz.prog 93 #[.map (some b), .string k] w fun e w' => e = .returned (errVal (kindF W k.data.toList)) ∧ Below w.heap.size w w' := by
 have HW := hid hW; have HK := hid hk
 clear hW hk
 by_cases h1 : k.data.toList = [78]
 ·have g1 : k.toList = [78] := str_list.2 h1
  have HZ : Hid (kindF W k.data.toList = 0) := hid (if_pos (.inl h1))
  clear h1
  go_enter Tryz.func93, Tryz.ntmps93
  go_wp2
  go_ret
  exact ⟨by rw [HZ.out]; rfl, Below.refl _ _⟩
 by_cases h2 : k.data.toList = [84]
 ·have g1 : k.toList = [84] := str_list.2 h2
  have HZ : Hid (kindF W k.data.toList = 0) := hid (if_pos (.inr h2))
  clear h1 h2
  go_enter Tryz.func93, Tryz.ntmps93
  go_wp2
  go_ret
  exact ⟨by rw [HZ.out]; rfl, Below.refl _ _⟩
 have g1 : ¬ k.toList = [78] := fun h => h1 (str_list.1 h)
 have g2 : ¬ k.toList = [84] := fun h => h2 (str_list.1 h)
 have g3 : (k.toList == [78]) = false := beq_eq_false_iff_ne.2 g1
 have g4 : (k.toList == [84]) = false := beq_eq_false_iff_ne.2 g2
 have HZ : Hid (kindF W k.data.toList = if isTy k.data.toList = false then 1 else if classB k.data.toList ≠ [] ∧ getK W (classN k.data.toList) = none then 3 else 0) := hid (if_neg (fun h => h.elim h1 h2))
 clear h1 h2
 by_cases h3 : isTy k.data.toList = true
 ·have H3 := hid h3
  have HZ2 := hid HZ.out
  rw [if_neg (by rw [h3]; simp)] at HZ2
  have HCK := hid (tcheck_any k w HK.out)
  unfold names.Checked at HCK
  rw [h3, if_pos rfl] at HCK
  clear h3 HZ
  go_enter Tryz.func93, Tryz.ntmps93
  go_wp2_with fail
  refine HCK.out.mono ?_
  rintro e w1 ⟨rfl, hb1⟩
  have HB1 := hid hb1
  clear hb1
  go_wp2_with fail
  refine (class_any k w1 H3.out).mono ?_
  rintro e w2 ⟨rfl, rfl⟩
  obtain ⟨c, hc⟩ : ∃ c, classN k.data.toList = c := ⟨_, rfl⟩
  by_cases h4 : classB k.data.toList = []
  ·have h5 : c.toList = [] := (noB_iff c).1 (hc ▸ (clsN_no _).2 h4)
   have h6 : (c.toList == []) = true := by rw [h5]; rfl
   have hz := HZ2.out
   rw [if_neg (by rintro ⟨h, _⟩; exact h h4)] at hz
   have HZ3 := hid hz
   rw [hc]
   clear h4 hz hc
   go_wp2
   go_ret
   exact ⟨by rw [HZ3.out]; rfl, HB1.out⟩
  ·have h5 : ¬ c.toList = [] := fun h => h4 ((clsN_no _).1 (hc.trans ((noB_iff c).2 h)))
   have h6 : (c.toList == []) = false := beq_eq_false_iff_ne.2 h5
   have hz := HZ2.out
   rw [hc] at hz ⊢
   obtain ⟨nm4, sup4, b1, m1, d1, fc4, b2, m2, d2, b3, m3, d3, _, _, hlk⟩ := look_ok (HW.out.below HB1.out) c
   cases hg : getK W c with
   | none =>
    rw [hg] at hlk hz
    rw [if_pos ⟨h4, rfl⟩] at hz
    have HZ3 := hid hz
    simp only [Option.isSome_none] at hlk
    clear h4 hz hg
    go_wp2
    go_ret
    exact ⟨by rw [HZ3.out]; rfl, HB1.out.alloc HB1.out.size _⟩
   | some q =>
    rw [hg] at hlk hz
    rw [if_neg (by rintro ⟨_, h⟩; cases h)] at hz
    have HZ3 := hid hz
    simp only [Option.isSome_some] at hlk
    clear h4 hz hg
    go_wp2
    go_ret
    exact ⟨by rw [HZ3.out]; rfl, HB1.out.alloc HB1.out.size _⟩
 ·have h3' : isTy k.data.toList = false := by simpa using h3
  have HZ2 := hid HZ.out
  rw [if_pos h3'] at HZ2
  have HCK := hid (tcheck_any k w HK.out)
  unfold names.Checked at HCK
  rw [h3', if_neg (by simp)] at HCK
  clear h3 h3' HZ
  go_enter Tryz.func93, Tryz.ntmps93
  go_wp2_with fail
  refine HCK.out.mono ?_
  rintro e w1 ⟨rfl, hb1⟩
  have HB1 := hid hb1
  clear hb1
  go_wp2
  go_ret
  exact ⟨by rw [HZ2.out]; rfl, HB1.out⟩
end Go.Proofs.YtlhobhnbgdicjaaGreatDoor.worlds
namespace Go.Proofs.YtlhobhnbgdicjaaGreatDoor.worlds
open Go.RowKit lib maps classes errs descs names
theorem does_same (W : WL) (x : UInt8) (a : List UInt8) : doesL W (x :: a) (x :: a) = true := by unfold doesL; rw [if_pos (.inr (.inl rfl))]
section
variable {W : WL} {x y : UInt8} {a c : List UInt8} (h84 : ¬ y :: c = [84]) (hne : ¬ x :: a = y :: c) (h78 : ¬ x :: a = [78])
include h84 hne h78
theorem does_head : ¬ (y :: c = [84] ∨ x :: a = y :: c ∨ (x :: a = [78] ∧ refs (y :: c) = true)) := by
 rintro (h | h | h)
 ·exact h84 h
 ·exact hne h
 ·exact h78 h.1
theorem does_no (hr : refs (x :: a) = false ∨ refs (y :: c) = false) : doesL W (x :: a) (y :: c) = false := by
 unfold doesL; rw [if_neg (does_head h84 hne h78), if_pos hr]
theorem does_cls (hr : refs (y :: c) = true) (hx : x = 76) : doesL W (x :: a) (y :: c) = (decide ((y :: c).head? = some 76) && inTexts (classN (y :: c)) (everyU W (classN (x :: a)))) := by
 have h1 : refs (x :: a) = true := by subst hx; rfl
 unfold doesL; rw [if_neg (does_head h84 hne h78), if_neg (by rw [h1, hr]; simp), if_pos hx]
theorem does_obj (h1 : refs (x :: a) = true) (hx : ¬ x = 76) (hy : y = 76) : doesL W (x :: a) (y :: c) = decide (y :: c = objT) := by
 have h2 : refs (y :: c) = true := by subst hy; rfl
 unfold doesL; rw [if_neg (does_head h84 hne h78), if_neg (by rw [h1, h2]; simp), if_neg hx]; simp only [hy, if_true]
theorem does_arr (h1 : refs (x :: a) = true) (h2 : refs (y :: c) = true) (hx : ¬ x = 76) (hy : ¬ y = 76) : doesL W (x :: a) (y :: c) = (refs a && (refs c && doesL W a c)) := by
 rw [doesL]; rw [if_neg (does_head h84 hne h78), if_neg (by rw [h1, h2]; simp), if_neg hx]; simp only [hy, if_false]
end
theorem refs_head {x : UInt8} {a : List UInt8} : refs (x :: a) = true ↔ x = 76 ∨ x = 91 := by
 unfold refs
 simp
theorem ty_tail {a : List UInt8} (h : isTy (91 :: a) = true) : isTy a = true := by
 obtain ⟨p, t, hpt, hp, h3, ht, _⟩ := right_parts h
 cases p with
 | nil =>
  rw [List.nil_append] at hpt
  subst hpt
  rcases ht with ht | ht | ⟨nm, ht, _⟩ <;> simp at ht
 | cons z p =>
  simp only [List.cons_append, List.cons.injEq] at hpt
  obtain ⟨_, rfl⟩ := hpt
  have h1 := core_tail (p := p) (t := t) (fun y hy => hp y (List.mem_cons_of_mem _ hy)) (by simp only [List.length_cons] at h3; omega) ht []
  rw [List.append_nil] at h1
  have ht0 : 1 ≤ t.length := by rcases ht with rfl | rfl | ⟨nm, rfl, _⟩ <;> simp
  simp only [isTy, decide_eq_true_eq]
  rw [h1, List.length_append]
  exact ⟨by omega, rfl⟩
set_option maxRecDepth 100000 in
set_option maxHeartbeats 16000000 in
theorem does_any (W : WL) (b : Nat) (hs : ∀ x, (cAt W x).faces.length ≤ 1048576) (hm : most W ≤ 13000001) : ∀ (N : Nat) (f t : ByteArray) (w : World), f.size ≤ N → isTy f.data.toList = true → isTy t.data.toList = true → WAt w b W →
  Calls Tryz.prog 50 #[.map (some b), .string f, .string t] w fun e w' => e = .returned (.bool (doesL W f.data.toList t.data.toList)) ∧ Below w.heap.size w w' := by
 intro N
 induction N with
 | zero =>
  intro f t w hN hf
  have : f.data.toList = [] := by
   have h : f.data.size = 0 := Nat.le_zero.1 hN
   rw [← Array.length_toList] at h
   exact List.eq_nil_of_length_eq_zero h
  rw [this] at hf
  exact absurd hf (by decide)
 | succ N ih =>
  intro f t w hN hf ht hW
  obtain ⟨x, a, hF⟩ : ∃ x a, f.data.toList = x :: a := by
   cases h : f.data.toList with
   | nil => rw [h] at hf; exact absurd hf (by decide)
   | cons x a => exact ⟨x, a, rfl⟩
  obtain ⟨y, c, hT⟩ : ∃ y c, t.data.toList = y :: c := by
   cases h : t.data.toList with
   | nil => rw [h] at ht; exact absurd ht (by decide)
   | cons x a => exact ⟨x, a, rfl⟩
  have n84 : ¬ y :: c = [84] := fun h => by rw [hT, h] at ht; exact absurd ht (by decide +kernel)
  have n78 : ¬ x :: a = [78] := fun h => by rw [hF, h] at hf; exact absurd hf (by decide +kernel)
  have g1 : ¬ t.toList = [84] := fun h => n84 (hT ▸ str_list.1 h)
  have g2 : ¬ f.toList = [78] := fun h => n78 (hF ▸ str_list.1 h)
  have g3 : (t.toList == [84]) = false := beq_eq_false_iff_ne.2 g1
  have g4 : (f.toList == [78]) = false := beq_eq_false_iff_ne.2 g2
  have HW := hid hW; have HF := hid hF; have HT := hid hT; have HTF := hid hf; have HTT := hid ht
  by_cases hft : f = t
  ·have s1 := str_eqb hft
   have HZ : Hid (doesL W f.data.toList t.data.toList = true) := hid (by rw [← hft, hF]; exact does_same W x a)
   have s2 : f.toList = t.toList := by rw [hft]
   clear hft hW hF hT hf ht n84 n78 ih
   go_enter Tryz.func50, Tryz.ntmps50
   go_wp2
   go_ret
   exact ⟨by rw [HZ.out]; rfl, Below.refl _ _⟩
  have s1 := str_neb hft
  have s2 : ¬ f.toList = t.toList := fun h => hft (by
   rw [ByteArray.toList_eq, ByteArray.toList_eq] at h
   exact ByteArray.ext (Array.toList_inj.1 h))
  have nne : ¬ x :: a = y :: c := fun h => hft (ByteArray.ext (Array.toList_inj.1 (by rw [hF, hT]; exact h)))
  have HRF := hid (refs_any f)
  have HRT := hid (refs_any t)
  rw [hF] at HRF
  rw [hT] at HRT
  rw [hF, hT]
  cases hr1 : refs (x :: a) with
  | false =>
   have HZ := hid (does_no (W := W) n84 nne n78 (.inl hr1))
   rw [hr1] at HRF
   clear hft hW hF hT hf ht n84 n78 nne ih hr1
   go_enter Tryz.func50, Tryz.ntmps50
   go_wp2_with fail
   refine (HRF.out _).mono ?_
   rintro e w1 ⟨rfl, rfl⟩
   go_wp2
   go_ret
   exact ⟨by rw [HZ.out]; rfl, Below.refl _ _⟩
  | true =>
   rw [hr1] at HRF
   cases hr2 : refs (y :: c) with
   | false =>
    have HZ := hid (does_no (W := W) n84 nne n78 (.inr hr2))
    rw [hr2] at HRT
    clear hft hW hF hT hf ht n84 n78 nne ih hr1 hr2
    go_enter Tryz.func50, Tryz.ntmps50
    go_wp2_with fail
    refine (HRF.out _).mono ?_
    rintro e w1 ⟨rfl, rfl⟩
    go_wp2_with fail
    refine (HRT.out _).mono ?_
    rintro e w2 ⟨rfl, rfl⟩
    go_wp2
    go_ret
    exact ⟨by rw [HZ.out]; rfl, Below.refl _ _⟩
   | true =>
    rw [hr2] at HRT
    obtain ⟨hf0, hfx⟩ := first_byte hF
    obtain ⟨ht0, hty⟩ := first_byte hT
    have hf0' : (0 : Int) < (f.size : Int) := by omega
    have ht0' : (0 : Int) < (t.size : Int) := by omega
    by_cases hx : x = 76
    ·have HZ := hid (does_cls (W := W) n84 nne n78 hr2 hx)
     have HCF := hid (fun u => class_any f u HTF.out)
     have HCT := hid (fun u => class_any t u HTT.out)
     rw [hF] at HCF
     rw [hT] at HCT
     have HLE : Hid ((everyU W (classN (x :: a))).length ≤ 1000000000000) := hid (by have := rounds_most W (classN (x :: a)) (most W); unfold everyU; omega)
     subst hx
     by_cases hy : y = 76
     ·subst hy
      clear hft hW hF hT hf ht n84 n78 nne ih hr1 hr2
      go_enter Tryz.func50, Tryz.ntmps50
      go_wp2_with fail
      refine (HRF.out _).mono ?_
      rintro e w1 ⟨rfl, rfl⟩
      go_wp2_with fail
      refine (HRT.out _).mono ?_
      rintro e w2 ⟨rfl, rfl⟩
      go_wp2_with fail
      refine (HCF.out _).mono ?_
      rintro e w3 ⟨rfl, rfl⟩
      go_wp2_with fail
      refine (every_any W b _ _ HW.out hs hm).mono ?_
      rintro e w4 ⟨v, rfl, hsl, hb4⟩
      have HSL := hid hsl
      have HB4 := hid hb4
      obtain ⟨av, cv, rfl⟩ := hsl.val
      clear hsl hb4
      go_wp2_with fail
      refine (HCT.out _).mono ?_
      rintro e w5 ⟨rfl, rfl⟩
      go_wp2_with fail
      refine (hasText_any _ _ _ (sortB (everyU W (classN (76 :: a)))) _ _ HSL.out HLE.out).mono ?_
      rintro e w6 ⟨rfl, rfl⟩
      go_wp2
      go_ret
      refine ⟨?_, HB4.out⟩
      rw [HZ.out]
      first | (rw [inT_sort]; simp; done) | (simp [inT_sort]; done)
     ·have hyb : (y == 76) = false := by simpa using hy
      have HZ2 : Hid (doesL W (76 :: a) (y :: c) = false) := hid (by
       rw [HZ.out]
       simp [hy])
      have hyn : ¬ (y.toNat : Int) = 76 := fun h => hy (by
       apply UInt8.toNat.inj
       show y.toNat = 76
       omega)
      clear hft hW hF hT hf ht n84 n78 nne hr1 hr2 ih
      go_enter Tryz.func50, Tryz.ntmps50
      go_wp2_with fail
      refine (HRF.out _).mono ?_
      rintro e w1 ⟨rfl, rfl⟩
      go_wp2_with fail
      refine (HRT.out _).mono ?_
      rintro e w2 ⟨rfl, rfl⟩
      go_wp2
      go_ret
      exact ⟨by rw [HZ2.out]; rfl, Below.refl _ _⟩
    ·obtain rfl : x = 91 := (refs_head.1 hr1).resolve_left hx
     by_cases hy : y = 76
     ·subst hy
      have HZ := hid (does_obj (W := W) n84 nne n78 hr1 hx rfl)
      obtain ⟨TB, hTB⟩ : ∃ TB, bs (thingB objB) = TB := ⟨_, rfl⟩
      have HTB := hid hTB
      have hTBl : TB.data.toList = objT := by rw [← hTB]; rfl
      by_cases hto : t = TB
      ·have s5 := str_eqb hto
       have HZ2 : Hid (doesL W (91 :: a) (76 :: c) = true) := hid (by
        rw [HZ.out, ← hT, hto, hTBl]; simp)
       clear hto hTB hTBl
       clear hft hW hF hT hf ht n84 n78 nne hr1 hr2 ih
       go_enter Tryz.func50, Tryz.ntmps50
       go_wp2_with fail
       refine (HRF.out _).mono ?_
       rintro e w1 ⟨rfl, rfl⟩
       go_wp2_with fail
       refine (HRT.out _).mono ?_
       rintro e w2 ⟨rfl, rfl⟩
       go_wp2_with fail
       refine (thing_any objB _ (by decide)).mono ?_
       rintro e w3 ⟨rfl, rfl⟩
       rw [HTB.out]
       go_wp2
       go_ret
       exact ⟨by rw [HZ2.out]; rfl, Below.refl _ _⟩
      ·have s5 := str_neb hto
       have s6 : ¬ t.toList = TB.toList := fun h => hto (by
        rw [ByteArray.toList_eq, ByteArray.toList_eq] at h
        exact ByteArray.ext (Array.toList_inj.1 h))
       have HZ2 : Hid (doesL W (91 :: a) (76 :: c) = false) := hid (by
        rw [HZ.out]
        refine decide_eq_false fun h => hto (ByteArray.ext (Array.toList_inj.1 ?_))
        rw [hT, h, hTBl])
       clear hto hTB hTBl
       clear hft hW hF hT hf ht n84 n78 nne hr1 hr2 ih
       go_enter Tryz.func50, Tryz.ntmps50
       go_wp2_with fail
       refine (HRF.out _).mono ?_
       rintro e w1 ⟨rfl, rfl⟩
       go_wp2_with fail
       refine (HRT.out _).mono ?_
       rintro e w2 ⟨rfl, rfl⟩
       go_wp2_with fail
       refine (thing_any objB _ (by decide)).mono ?_
       rintro e w3 ⟨rfl, rfl⟩
       rw [HTB.out]
       go_wp2
       go_ret
       exact ⟨by rw [HZ2.out]; rfl, Below.refl _ _⟩
     ·obtain rfl : y = 91 := (refs_head.1 hr2).resolve_left hy
      have HZ := hid (does_arr (W := W) n84 nne n78 hr1 hr2 hx hy)
      have HTA := hid (ty_tail (hF ▸ hf))
      have HTC := hid (ty_tail (hT ▸ ht))
      obtain ⟨FA, hFA⟩ : ∃ FA, f.extract 1 f.size = FA := ⟨_, rfl⟩
      obtain ⟨TA, hTA⟩ : ∃ TA, t.extract 1 t.size = TA := ⟨_, rfl⟩
      have hFAl : FA.data.toList = a := by
       rw [← hFA, ByteArray.data_extract, Array.toList_extract, hF]
       have : f.size = a.length + 1 := by
        show f.data.size = _
        rw [← Array.length_toList, hF]; rfl
       rw [this]; simp [List.extract]
      have hTAl : TA.data.toList = c := by
       rw [← hTA, ByteArray.data_extract, Array.toList_extract, hT]
       have : t.size = c.length + 1 := by
        show t.data.size = _
        rw [← Array.length_toList, hT]; rfl
       rw [this]; simp [List.extract]
      have HSF : Hid (FA.size ≤ N) := hid (by
       have h1 : FA.size = a.length := by show FA.data.size = _; rw [← Array.length_toList, hFAl]
       have h2 : f.size = a.length + 1 := by show f.data.size = _; rw [← Array.length_toList, hF]; rfl
       omega)
      have HFA := hid hFAl; have HTAl := hid hTAl
      have q1 : (1 : Int) ≤ (f.size : Int) := by omega
      have q2 : (1 : Int) ≤ (t.size : Int) := by omega
      have HIH : Hid (∀ u, WAt u b W → Calls Tryz.prog 50 #[.map (some b), .string FA, .string TA] u fun e w' => e = .returned (.bool (doesL W a c)) ∧ Below u.heap.size u w') := hid (fun u hu => by
       have h := ih FA TA u HSF.out (by rw [hFAl]; exact HTA.out) (by rw [hTAl]; exact HTC.out) hu
       rw [hFAl, hTAl] at h; exact h)
      have HRA := hid (refs_any FA)
      have HRC := hid (refs_any TA)
      rw [hFAl] at HRA
      rw [hTAl] at HRC
      obtain ⟨r1, hr1'⟩ : ∃ r1, refs a = r1 := ⟨_, rfl⟩
      obtain ⟨r2, hr2'⟩ : ∃ r2, refs c = r2 := ⟨_, rfl⟩
      rw [hr1'] at HRA HZ
      rw [hr2'] at HRC HZ
      clear hr1' hr2'
      clear hFAl hTAl
      clear hft hW hF hT hf ht n84 n78 nne hr1 hr2 ih
      go_enter Tryz.func50, Tryz.ntmps50
      go_wp2_with fail
      refine (HRF.out _).mono ?_
      rintro e w1 ⟨rfl, rfl⟩
      go_wp2_with fail
      refine (HRT.out _).mono ?_
      rintro e w2 ⟨rfl, rfl⟩
      go_wp2_with fail
      go_quiet (fail)
      have HBD := hid (below_drewN (Below.refl w.heap.size w) nq)
      go_wp2_with fail
      refine (HRA.out _).mono ?_
      rintro e w3 ⟨rfl, rfl⟩
      cases r1 with
      | false =>
       go_wp2
       go_ret
       exact ⟨by rw [HZ.out]; rfl, HBD.out⟩
      | true =>
       go_wp2_with fail
       refine (HRC.out _).mono ?_
       rintro e w4 ⟨rfl, rfl⟩
       cases r2 with
       | false =>
        go_wp2
        go_ret
        exact ⟨by rw [HZ.out]; rfl, HBD.out⟩
       | true =>
        go_wp2_with fail
        refine (HIH.out _ (HW.out.below HBD.out)).mono ?_
        rintro e w5 ⟨rfl, hb5⟩
        have HB5 := hid (HBD.out.trans (hb5.mono HBD.out.size))
        clear hb5
        go_wp2
        go_ret
        exact ⟨by rw [HZ.out]; rfl, HB5.out⟩
end Go.Proofs.YtlhobhnbgdicjaaGreatDoor.worlds
namespace Go.Proofs.YtlhobhnbgdicjaaGreatDoor.worlds
open Go.RowKit lib maps classes errs
structure Wd (w : World) (b : Nat) (W : WL) : Prop where
 at_ : WAt w b W
 good : GoodW W
 most : most W ≤ 13000001
theorem Wd.below {w w' : World} {b : Nat} {W : WL} (h : Wd w b W) (hb : Below w.heap.size w w') : Wd w' b W := ⟨h.at_.below hb, h.good, h.most⟩
theorem GoodW.faces' {W : WL} (h : GoodW W) (x : ByteArray) : (cAt W x).faces.length ≤ 1048576 := by
 unfold cAt
 cases hg : getK W x with
 | none => simp [zeroC]
 | some c => have := h.faces x c hg; simp only [Option.getD_some]; omega
theorem GoodW.fields' {W : WL} (h : GoodW W) (x : ByteArray) : (cAt W x).fields.length ≤ 8 := by
 unfold cAt
 cases hg : getK W x with
 | none => simp [zeroC]
 | some c => have := h.fields x c hg; simp only [Option.getD_some]; omega
theorem rev_any {w0 w : World} {v : Value} {l : List ByteArray} (ho : Out w0 w 9 1 v l.length (l.map .string)) (h1 : 1 ≤ l.length) (hsz : l.length ≤ 1000000000) :
  Calls Tryz.prog 141 #[v] w fun e w' => e = .returned (.tuple #[]) ∧ Sl w' v l.length 1 (l.reverse.map .string) ∧ Below w0.heap.size w0 w' := by
 rcases ho.own.2 with ⟨_, h0⟩ | ⟨g, cap, cur, rfl, hg, hrow, hc, _, hcs, hxs⟩
 ·omega
 rw [Nat.mul_one] at hxs
 obtain ⟨ss, hss⟩ : ∃ ss, l.map (fun x => x.data.toList) = ss := ⟨_, rfl⟩
 have hsl : ss.length = l.length := by rw [← hss, List.length_map]
 have hgl : g < w.heap.size := (Array.getElem?_eq_some_iff.1 hrow).1
 have hH : Go.Sort.Holds Go.Proofs.encStr w g 0 ss.toArray := by
  intro j hj
  have hjl : j < l.length := by rw [← hsl]; simpa using hj
  refine ⟨?_, ?_⟩
  ·rw [Nat.zero_add, cell_of_row _ _ _ _ _ _ hrow]
   have e1 : (cur.toList.take l.length)[j]? = cur[j]? := by rw [List.getElem?_take, if_pos hjl, Array.getElem?_toList]
   rw [← e1, hxs, List.getElem?_map, List.getElem?_eq_getElem hjl]
   have e2 : ss.toArray[j]! = l[j].data.toList := by
    subst hss
    simp [hjl]
   rw [e2]
   simp [Go.Proofs.encStr]
  ·exact frozen_of_row _ _ _ _ _ hrow
 have hrun := Tryz.slices_Reverse_string g 0 cap ss w hH (by omega)
 rw [hsl] at hrun
 refine hrun.mono ?_
 rintro e w' ⟨rfl, n, rfl⟩
 have hB := below_sorted ho.below hg n ss.reverse.toArray #[]
 rw [Go.Sort.grow_empty] at hB
 refine ⟨rfl, ?_, hB⟩
 obtain ⟨d, hd⟩ : ∃ d, ss.reverse = d := ⟨_, rfl⟩
 rw [hd]
 have hdl : d.length = ss.length := by rw [← hd, List.length_reverse]
 have hG := Go.Sort.holds_putRow Go.Proofs.encStr (Go.Sort.ahead w n) g 0 ss.toArray d.toArray hH (by simpa using hdl)
 have hsb : l.reverse = d.map fun x => ⟨x.toArray⟩ := by
  rw [← hd, ← hss, List.map_reverse, List.map_map]
  congr 1
  have : ((fun x : List UInt8 => (⟨x.toArray⟩ : ByteArray)) ∘ fun x : ByteArray => x.data.toList) = id := by funext x; rfl
  rw [this, List.map_id]
 refine ⟨by rw [List.length_map, List.length_reverse, Nat.mul_one], _, _, rfl, hc, .inr ⟨g, 0, rfl, fun j u hj => ?_⟩⟩
 rw [hsb, List.map_map, List.getElem?_map] at hj
 have hjd : j < d.length := by
  rcases Nat.lt_or_ge j d.length with h | h
  ·exact h
  ·rw [List.getElem?_eq_none h] at hj; cases hj
 rw [List.getElem?_eq_getElem hjd] at hj
 have := (hG j (by simpa using hjd)).1
 rw [this]
 have e3 : d.toArray[j]! = d[j] := by simp [hjd]
 rw [e3]
 simpa [Go.Proofs.encStr] using hj
abbrev SF := ByteArray × classes.Fd
def scell (p : SF) : List Value := [.string p.1, .string p.2.nm, .string p.2.ty]
def fieldsOf (W : WL) (c : ByteArray) : List SF := (cAt W c).fields.map fun f => (c, f)
def upTo (W : WL) (R : List ByteArray) (i : Nat) : List SF := (R.take i).flatMap (fieldsOf W)
theorem upTo_step {W : WL} {R : List ByteArray} {i : Nat} (h : i < R.length) : upTo W R (i + 1) = upTo W R i ++ fieldsOf W R[i] := by
 unfold upTo
 rw [List.take_add_one, List.getElem?_eq_getElem h, List.flatMap_append]
 simp
theorem upTo_len {W : WL} (h : GoodW W) (R : List ByteArray) : ∀ i, (upTo W R i).length ≤ 8 * i
 | 0 => by simp [upTo]
 | i + 1 => by
  have ih := upTo_len h R i
  by_cases hi : i < R.length
  ·rw [upTo_step hi, List.length_append]
   have := h.fields' R[i]
   unfold fieldsOf
   rw [List.length_map]; omega
  ·have : upTo W R (i + 1) = upTo W R i := by unfold upTo; rw [List.take_of_length_le (by omega), List.take_of_length_le (by omega)]
   rw [this]; omega
theorem infoL : (Tryz.prog.info? 154).map (fun i => (i.zero, i.size, i.bytes)) = some (some (.agg #[.string { data := #[] }, .string { data := #[] }, .string { data := #[] }]), 3, 48) := by kernel_rfl
set_option maxRecDepth 100000 in
theorem run_fields (v0 v1 v2 v3 v5 : Value) (a : Option Addr) (n c : Nat) (w : World) : (Instr.field 74 (.agg #[v0, v1, v2, v3, .slice a n c, v5]) 4).run Tryz.prog w = .ok (.slice a n c) w := by
 simp [Instr.field, run_underlying Tryz.underlying74]
 first | rfl | kernel_rfl | (go_simp; done) | (go_simp; rfl)
set_option maxRecDepth 100000 in
set_option maxHeartbeats 8000000 in
theorem slots_any (W : WL) (b : Nat) (n : ByteArray) (w : World) (hW : Wd w b W) :
  Calls Tryz.prog 116 #[.map (some b), .string n] w fun e w' => ∃ v, e = .returned v ∧ Sl w' v (upTo W (lineOf W n).reverse (lineOf W n).length).length 3 ((upTo W (lineOf W n).reverse (lineOf W n).length).flatMap scell) ∧ Below w.heap.size w w' := by
 have HW := hid hW
 obtain ⟨hl, hll⟩ := line_of hW.good.sound n
 obtain ⟨L, hL⟩ : ∃ L, lineOf W n = L := ⟨_, rfl⟩
 rw [hL] at hl hll ⊢
 have hL1 : 1 ≤ L.length := line_pos hl
 have hL2 : L.length ≤ 13000001 := Nat.le_trans hll hW.most
 have HLN := hid (line_any W b n L w hW.at_ hl (by omega))
 obtain ⟨R, hR⟩ : ∃ R, L.reverse = R := ⟨_, rfl⟩
 obtain ⟨m, hm⟩ : ∃ m, L.length = m := ⟨_, rfl⟩
 have hRm : R.length = m := by rw [← hR, List.length_reverse, hm]
 have HREVL := hid (fun (u : World) v (ho : Out w u 9 1 v L.length (L.map .string)) => rev_any ho hL1 (by omega))
 rw [hm] at HLN HREVL hL1 hL2
 rw [hR] at HREVL ⊢
 rw [hm]
 clear hl hll hL hW hR hm
 go_enter Tryz.func116, Tryz.ntmps116
 go_wp2_with fail
 refine HLN.out.mono ?_
 rintro e w1 ⟨v1, rfl, ho1⟩
 have HREV := hid (HREVL.out _ _ ho1)
 obtain ⟨g1, c1, hv1⟩ := ho1.sl.val
 subst hv1
 clear ho1 HLN
 go_wp2_with fail
 refine HREV.out.mono ?_
 rintro e w3 ⟨rfl, hs3, hb3⟩
 rw [← hRm] at hs3
 have HS3 := hid hs3
 rw [hRm] at HS3
 have HB3 := hid hb3
 have HW3 := hid (HW.out.below hb3)
 have HRM := hid hRm
 have HS3b : Hid (Sl w3 (.slice g1 m c1) R.length 1 (R.map .string)) := hid (by rw [HRM.out]; exact HS3.out)
 clear hs3 hb3 HREV HREVL HS3
 have HS3 := HS3b
 clear HS3b
 go_wp2
 go_loopw [5, 18] (fun v5 v18 wr => ∃ i : Nat, i ≤ m ∧ v18 = .int .i64 (i : Int) ∧ Hid (Out w3 wr 154 3 v5 (upTo W R i).length ((upTo W R i).flatMap scell))) (fun _ v _ => m - (intOf v).toNat)
 case atStart => exact ⟨0, Nat.zero_le _, rfl, hid (by rw [show upTo W R 0 = [] from rfl]; exact Out.nil _ _ _)⟩
 case round =>
  obtain ⟨i, hi, rfl, HR⟩ := hrel
  obtain ⟨wa, hwa⟩ : ∃ wa, wa = wr := ⟨_, rfl⟩
  subst hwa
  have hi0 : (0 : Int) ≤ (i : Int) := by omega
  by_cases hltm : i < m
  ·have hi1 : (i : Int) < (m : Int) := by omega
   have hlt : i < R.length := by rw [HRM.out]; exact hltm
   obtain ⟨bx, ox, hax, hcx⟩ := text_at (HS3.out.below HR.out.below) hlt
   cases hax
   have HST := hid (upTo_step (W := W) hlt)
   have hul := upTo_len HW.out.good R i
   generalize R[i] = c at hcx HST
   have HWA := hid (HW3.out.below HR.out.below)
   have hlk := world_look HWA.out.at_ c
   have hat := HWA.out.at_.at_ c
   have hf8 := HW.out.good.fields' c
   obtain ⟨k, hk⟩ : ∃ k, cAt W c = k := ⟨_, rfl⟩
   have HC : Hid (fieldsOf W c = k.fields.map fun f => (c, f)) := hid (by unfold fieldsOf; rw [hk])
   rw [hk] at hlk hat hf8
   have hkk := hk
   clear hk
   obtain ⟨nm, sup, vf, face, vd, vm, faces, fields, mets⟩ := k
   obtain ⟨a1, d1, a2, d2, a3, d3, e1, e2, e3⟩ := cls_vals hat
   simp only at e1 e2 e3 HC hf8
   subst e1 e2 e3
   simp only [CV.cells] at hlk
   have HFDW : Hid (Fds w (.slice a2 fields.length d2) fields) := hid (by have h := HW.out.at_.at_ c; rw [hkk] at h; exact h.fields)
   clear hkk
   obtain ⟨U, hU⟩ : ∃ U, upTo W R i = U := ⟨_, rfl⟩
   rw [hU] at HR HST hul
   have hul2 : U.length ≤ 104000008 := by omega
   obtain ⟨a5, c5, hv5⟩ := HR.out.sl.val
   subst hv5
   have hfl := fun u => run_fields (.string nm) (.string sup) (.slice a1 faces.length d1) (.bool face) (.slice a3 mets.length d3) a2 fields.length d2 u
   clear hat hU
   go_wp2
   clear hlk hcx hfl
   go_loopw [5, 27] (fun v5 v27 wx => ∃ j : Nat, j ≤ fields.length ∧ v27 = .int .i64 (j : Int) ∧ Hid (Out w3 wx 154 3 v5 (U.length + j) ((U ++ (fields.take j).map fun f => (c, f)).flatMap scell))) (fun _ v _ => fields.length - (intOf v).toNat)
   case atStart => exact ⟨0, Nat.zero_le _, rfl, hid (by simpa using HR.out)⟩
   case round =>
    obtain ⟨j, hj, rfl, HO⟩ := hrel
    have HFX : Hid (Fds wr (.slice a2 fields.length d2) fields) := hid (HFDW.out.below (HB3.out.trans (HO.out.below.mono HB3.out.size)))
    have hj0 : (0 : Int) ≤ (j : Int) := by omega
    by_cases hlt2 : j < fields.length
    ·have hj1 : (j : Int) < (fields.length : Int) := by omega
     obtain ⟨by_, oy, hay, hc0, hc1⟩ := fd_at HFX.out hlt2
     cases hay
     have HTK : Hid ((fields.take (j + 1)).map (fun f => (c, f)) = (fields.take j).map (fun f => (c, f)) ++ [(c, fields[j])]) := hid (by rw [List.take_add_one, List.getElem?_eq_getElem hlt2, List.map_append]; rfl)
     generalize fields[j] = f at hc0 hc1 HTK
     obtain ⟨fn, ft⟩ := f
     simp only at hc0 hc1
     obtain ⟨a6, c6, rfl⟩ := HO.out.sl.val
     obtain ⟨W4, hW4⟩ : ∃ W4, wr.alloc (.cells #[.string fn, .string ft] 87) = W4 := ⟨_, rfl⟩
     have hr4 : W4.heap[wr.heap.size]? = some (.cells #[.string fn, .string ft] 87 (0, 0)) := hW4 ▸ heap_alloc_new _ _
     have q0 : W4.cell? ⟨wr.heap.size, 0, none⟩ = some (.string fn) := by rw [cell_of_row _ _ _ _ _ _ hr4]; rfl
     have q1 : W4.cell? ⟨wr.heap.size, 1, none⟩ = some (.string ft) := by rw [cell_of_row _ _ _ _ _ _ hr4]; rfl
     have HO4 : Hid (Out w3 W4 154 3 (.slice a6 (U.length + j) c6) (U.length + j) ((U ++ (fields.take j).map fun f => (c, f)).flatMap scell)) := hid (hW4 ▸ HO.out.alloc _)
     clear hr4
     go_wp2_with (at_builtin; refine wpList_append_lit_at w3 W4 _ rfl _ _ 151 rfl 154 (.agg #[.string { data := #[] }, .string { data := #[] }, .string { data := #[] }]) 3 48 1 Tryz.underlying151 infoL rfl (by decide) _ _ _ HO4.out rfl rfl rfl ?_ ?_ ?_ ?_)
     all_goals first | (intro v2 w2 ho2 hg2 hat2) | omega | (simp [Value.oneCell']; done) | skip
     have HO5 : Hid (Out w3 w2 154 3 v2 (U.length + (j + 1)) ((U ++ (fields.take (j + 1)).map fun f => (c, f)).flatMap scell)) := hid (by
      rw [HTK.out, ← List.append_assoc, List.flatMap_append, List.flatMap_append, List.append_assoc, List.map_take]
      exact ho2)
     clear ho2 hg2 hat2
     go_wp2_with fail
     go_roundw
     case rel => exact ⟨j + 1, by omega, by simp, HO5⟩
     case measure => simp [intOf]; omega
    ·obtain rfl : j = fields.length := by omega
     have HN : Hid (Out w3 wr 154 3 u5 (upTo W R (i + 1)).length ((upTo W R (i + 1)).flatMap scell)) := hid (by
      have := HO.out
      rw [List.take_length, ← HC.out, ← HST.out] at this
      have e : (upTo W R (i + 1)).length = U.length + fields.length := by rw [HST.out, HC.out, List.length_append, List.length_map]
      rw [e]; exact this)
     go_wp2_with fail
     go_roundw
     case rel => exact ⟨i + 1, by omega, by simp, HN⟩
     case measure => simp [intOf]; omega
  ·obtain rfl : i = m := by omega
   have HB := hid HR.out.below
   have HSL := hid HR.out.sl
   have HB0 := hid (HB3.out.trans (HB.out.mono HB3.out.size))
   obtain ⟨a5, c5, hv5⟩ := HR.out.sl.val
   subst hv5
   clear HR hltm
   go_wp2
   go_ret
   exact ⟨_, rfl, HSL.out, HB0.out⟩
end Go.Proofs.YtlhobhnbgdicjaaGreatDoor.worlds
namespace Go.Proofs.YtlhobhnbgdicjaaGreatDoor.worlds
open Go.RowKit lib maps classes errs
theorem lay_upTo (W : WL) (n : ByteArray) : layOf W n = (upTo W (lineOf W n).reverse (lineOf W n).length).map fun p => p.2.ty := by
 unfold layOf slotsOf upTo
 rw [List.take_of_length_le (by rw [List.length_reverse]; exact Nat.le_refl _), List.map_flatMap, List.map_flatMap]
 congr 1
 funext c
 unfold fieldsOf
 rw [List.map_map]
 rfl
theorem slot_at {w : World} {a : Option Addr} {n c : Nat} {l : List SF} (h : Sl w (.slice a n c) l.length 3 (l.flatMap scell)) {k : Nat} (hk : k < l.length) :
  ∃ b off, a = some ⟨b, off, none⟩ ∧ w.cell? ⟨b, off + k * 3, none⟩ = some (.string l[k].1) ∧ w.cell? ⟨b, off + k * 3 + 1, none⟩ = some (.string l[k].2.nm) ∧ w.cell? ⟨b, off + k * 3 + 2, none⟩ = some (.string l[k].2.ty) := by
 obtain ⟨b, off, ha, hc⟩ := row_at (cells := scell) (sz := 3) (fun _ => rfl) h hk (by decide)
 refine ⟨b, off, ha, ?_, ?_, ?_⟩
 ·have := hc 0 (by decide); rw [Nat.add_zero] at this; exact this
 ·have := hc 1 (by decide); rw [← Nat.add_assoc] at this; exact this
 ·have := hc 2 (by decide); rw [← Nat.add_assoc] at this; exact this
set_option maxRecDepth 100000 in
set_option maxHeartbeats 8000000 in
theorem types_any (W : WL) (b : Nat) (n : ByteArray) (w : World) (hW : Wd w b W) :
  Calls Tryz.prog 96 #[.map (some b), .string n] w fun e w' => ∃ v, e = .returned v ∧ Sl w' v (layOf W n).length 1 ((layOf W n).map .string) ∧ Below w.heap.size w w' := by
 have HSLO := hid (slots_any W b n w hW)
 have HLAY := hid (lay_upTo W n)
 have hlen := upTo_len hW.good (lineOf W n).reverse (lineOf W n).length
 have hmost := Nat.le_trans (line_of hW.good.sound n).2 hW.most
 obtain ⟨S, hS⟩ : ∃ S, upTo W (lineOf W n).reverse (lineOf W n).length = S := ⟨_, rfl⟩
 rw [hS] at HSLO HLAY hlen
 obtain ⟨T, hT⟩ : ∃ T, layOf W n = T := ⟨_, rfl⟩
 rw [hT] at HLAY ⊢
 have hSl : S.length ≤ 104000008 := by omega
 clear hlen hmost hS hT hW
 go_enter Tryz.func96, Tryz.ntmps96
 go_wp2_with fail
 refine HSLO.out.mono ?_
 rintro e w1 ⟨v, rfl, hs1, hb1⟩
 have HS1 := hid hs1
 have HB1 := hid hb1
 obtain ⟨av, cv, hv⟩ := hs1.val
 subst hv
 clear hs1 hb1 HSLO
 go_wp2
 go_loopw [5, 12] (fun v5 v12 wr => ∃ k : Nat, k ≤ S.length ∧ v12 = .int .i64 (k : Int) ∧ Hid (Out w1 wr 9 1 v5 k ((S.take k).map fun p => .string p.2.ty))) (fun _ v _ => S.length - (intOf v).toNat)
 case atStart => exact ⟨0, Nat.zero_le _, rfl, hid (Out.nil _ _ _)⟩
 case round =>
  obtain ⟨k, hk, rfl, HO⟩ := hrel
  have hk0 : (0 : Int) ≤ (k : Int) := by omega
  obtain ⟨a5, c5, rfl⟩ := HO.out.sl.val
  by_cases hlt : k < S.length
  ·have hk1 : (k : Int) < (S.length : Int) := by omega
   obtain ⟨bx, ox, hax, hd0, hd1, hd2⟩ := slot_at (HS1.out.below HO.out.below) hlt
   subst hax
   have HTK : Hid ((S.take (k + 1)).map (fun p => Value.string p.2.ty) = (S.take k).map (fun p => Value.string p.2.ty) ++ [Value.string S[k].2.ty]) := hid (by rw [List.take_add_one, List.getElem?_eq_getElem hlt, List.map_append]; rfl)
   generalize S[k] = p at hd0 hd1 hd2 HTK
   obtain ⟨pc, ⟨pn, pt⟩⟩ := p
   simp only at hd0 hd1 hd2 HTK
   obtain ⟨W4, hW4⟩ : ∃ W4, wr.alloc (.cells #[.string pc, .string pn, .string pt] 154) = W4 := ⟨_, rfl⟩
   have hr4 : W4.heap[wr.heap.size]? = some (.cells #[.string pc, .string pn, .string pt] 154 (0, 0)) := hW4 ▸ heap_alloc_new _ _
   have q2 : W4.cell? ⟨wr.heap.size, 2, none⟩ = some (.string pt) := by rw [cell_of_row _ _ _ _ _ _ hr4]; rfl
   have HO4 : Hid (Out w1 W4 9 1 (.slice a5 k c5) k ((S.take k).map fun p => .string p.2.ty)) := hid (hW4 ▸ HO.out.alloc _)
   clear hr4
   go_wp2_with (at_builtin; refine wpList_append_lit_at w1 W4 _ rfl _ _ 58 rfl 9 (.string { data := #[] }) 1 16 1 Tryz.underlying58 infoS rfl (by decide) _ _ _ HO4.out rfl rfl rfl ?_ ?_ ?_ ?_)
   all_goals first | (intro v2 w2 ho2 hg2 hat2) | omega | (simp [Value.oneCell']; done) | skip
   have HO5 : Hid (Out w1 w2 9 1 v2 (k + 1) ((S.take (k + 1)).map fun p => .string p.2.ty)) := hid (by
    rw [HTK.out]
    first | exact ho2 | (rw [List.map_take] at ho2 ⊢; exact ho2) | (rw [List.map_take]; exact ho2))
   clear ho2 hg2 hat2
   go_wp2_with fail
   go_roundw
   case rel => exact ⟨k + 1, by omega, by simp, HO5⟩
   case measure => simp [intOf]; omega
  ·obtain rfl : k = S.length := by omega
   have HB := hid (HB1.out.trans (HO.out.below.mono HB1.out.size))
   have HSL : Hid (Sl wr (.slice a5 S.length c5) T.length 1 (T.map .string)) := hid (by
    have := HO.out.sl
    rw [List.take_length] at this
    rw [HLAY.out, List.length_map, List.map_map]
    exact this)
   clear HO hlt
   go_wp2
   go_ret
   exact ⟨_, rfl, HSL.out, HB.out⟩
end Go.Proofs.YtlhobhnbgdicjaaGreatDoor.worlds
namespace Go.Proofs.YtlhobhnbgdicjaaGreatDoor.nums
open Go.RowKit lib
theorem word_small (a : Int) : wrap64 (wrap32 a) = wrap32 a := by
 unfold wrap64 wrap32; omega
theorem word_any (a : Int) (w : World) : Calls Tryz.prog 48 #[.int .i64 a] w fun e w' => e = .returned (.int .i64 (wrap32 a)) ∧ w = w' := by
 have h := word_small a
 go_enter Tryz.func48, Tryz.ntmps48
 go_wp2
 go_ret
 exact ⟨by first | rfl | (rw [h]; rfl), rfl⟩
theorem int_letters (t : ByteArray) : (t = (⟨#[73]⟩ : ByteArray)) ↔ t.data.toList = [73] := by
 constructor
 ·rintro rfl; rfl
 ·intro h; exact ByteArray.ext (Array.toList_inj.1 h)
end Go.Proofs.YtlhobhnbgdicjaaGreatDoor.nums
namespace Go.Proofs.YtlhobhnbgdicjaaGreatDoor.worlds
open Go.RowKit lib maps classes errs grow nums descs
set_option maxRecDepth 100000 in
set_option maxHeartbeats 8000000 in
theorem hdoes_any (W : WL) (b : Nat) (vt : Value) (H : List Th) (k n : Int) (t : ByteArray) (w : World) (hW : Wd w b W) (hH : Ths w vt H) (hty : ∀ x ∈ H, isTy x.ty.data.toList = true) (ht : isTy t.data.toList = true) (hn : H.length ≤ 1048576) :
  Calls Tryz.prog 29 #[.map (some b), .agg #[vt], .agg #[.int .i64 k, .int .i64 n], .string t] w fun e w' => e = .returned (.bool (doesV W H ⟨k, n⟩ t.data.toList)) ∧ Below w.heap.size w w' := by
 obtain ⟨ah, ch, rfl⟩ := hH.sl.val
 have HW := hid hW; have HH := hid hH; have HTY := hid hty; have HT := hid ht
 obtain ⟨W1, hW1⟩ : ∃ W1, w.alloc (.cells #[.slice ah H.length ch] 25) = W1 := ⟨_, rfl⟩
 have HB1 : Hid (Below w.heap.size w W1) := hid (hW1 ▸ ext_alloc _ _)
 have hlt1 : w.heap.size < W1.heap.size := by rw [← hW1]; simp
 have hr1 : W1.heap[w.heap.size]? = some (.cells #[.slice ah H.length ch] 25 (0, 0)) := hW1 ▸ heap_alloc_new _ _
 obtain ⟨W2, hW2⟩ : ∃ W2, W1.alloc (.cells #[.int .i64 k, .int .i64 n] 49) = W2 := ⟨_, rfl⟩
 have HB12 : Hid (Below W1.heap.size W1 W2) := hid (hW2 ▸ ext_alloc _ _)
 have HB2 := hid (HB1.out.trans (HB12.out.mono HB1.out.size))
 have hlt2 : W1.heap.size < W2.heap.size := by rw [← hW2]; simp
 have hr2 : W2.heap[W1.heap.size]? = some (.cells #[.int .i64 k, .int .i64 n] 49 (0, 0)) := hW2 ▸ heap_alloc_new _ _
 have HV : Hid (∀ u, Below W2.heap.size W2 u → u.cell? ⟨W1.heap.size, 0, none⟩ = some (.int .i64 k) ∧ u.cell? ⟨W1.heap.size, 1, none⟩ = some (.int .i64 n)) := hid (fun u hu => by
  have h := (hu.block _ hlt2).trans hr2
  refine ⟨?_, ?_⟩ <;> (rw [cell_of_row _ _ _ _ _ _ h]; rfl))
 have HK : Hid (∀ u, Below W2.heap.size W2 u → u.cell? ⟨w.heap.size, 0, none⟩ = some (.slice ah H.length ch)) := hid (fun u hu => by
  have h := (hu.block _ (Nat.lt_trans hlt1 hlt2)).trans ((HB12.out.block _ hlt1).trans hr1)
  rw [cell_of_row _ _ _ _ _ _ h]; rfl)
 obtain ⟨x0, x1⟩ := HV.out _ (Below.refl _ _)
 have x2 := HK.out _ (Below.refl _ _)
 clear hH hty hr1 hr2 hW
 by_cases h1 : k = 1
 ·subst h1
  by_cases hI : t.data.toList = [73]
  ·have HZ : Hid (doesV W H ⟨1, n⟩ t.data.toList = decide (n = wrap32 n)) := hid (by rw [hI]; unfold doesV; simp)
   obtain rfl : t = ⟨#[73]⟩ := (int_letters t).2 hI
   clear hI
   go_enter Tryz.func29, Tryz.ntmps29
   go_wp2_with fail
   refine wp_region_ext [(7, is (.int .i64 (wrap32 n)))] ⟨is_stays _, trivial⟩ (by kernel_rfl) (by kernel_rfl) ?_
   refine wpG_calc 1 rfl rfl rfl (fun u => by go_simp; rfl) ?_
   go_frame
   refine wpG_calc (v := .bool true) 2 rfl rfl rfl (fun u => by first | (go_simp; done) | (go_simp; rfl)) ?_
   go_frame
   refine wpG_calc 3 rfl rfl rfl (fun u => by go_simp; rfl) ?_
   go_frame
   refine wpG_calc 4 rfl rfl rfl (fun u => by go_simp; rfl) ?_
   go_frame
   refine wpG_read 5 rfl rfl (.int .i64 n) rfl ?_ ?_
   ·intro u hu hh
    obtain ⟨y0, y1⟩ := HV.out u hu
    go_simp
   go_frame
   refine wpG_calc 6 rfl rfl rfl (fun u => by go_simp; rfl) ?_
   go_frame
   refine wpG_read 7 rfl rfl (.int .i64 n) rfl ?_ ?_
   ·intro u hu hh
    obtain ⟨y0, y1⟩ := HV.out u hu
    go_simp
   go_frame
   refine wpG_rel 8 rfl rfl rfl ?_ ?_
   ·intro u hu hh
    go_simp
    refine (word_any n u).mono ?_
    rintro e w2 ⟨rfl, rfl⟩
    exact ⟨_, rfl, rfl, Below.refl _ _⟩
   intro vC ⟨uC, _, hrC⟩
   obtain rfl : vC = .int .i64 (wrap32 n) := hrC
   go_frame
   refine wpG_calc 9 rfl rfl rfl (fun u => by go_simp; rfl) ?_
   go_frame
   refine wpG_calc 10 rfl rfl rfl (fun u => by go_simp; rfl) ?_
   go_frame
   refine wpG_calc 11 rfl rfl rfl (fun u => by go_simp; rfl) ?_
   go_frame
   refine wpG_nil fun w' hb' hF => ?_
   clear hF
   have HBf := hid (HB2.out.trans (hb'.mono HB2.out.size))
   clear hb'
   go_wp2
   go_ret
   exact ⟨by rw [HZ.out]; first | rfl | (simp; done), HBf.out⟩
  ·have HZ : Hid (doesV W H ⟨1, n⟩ t.data.toList = false) := hid (by unfold doesV; simp [hI])
   have g1 : ¬ t.toList = [73] := fun h => hI (str_list.1 h)
   have hf1 : (t.toList == [73]) = false := beq_eq_false_iff_ne.2 g1
   clear hI
   go_enter Tryz.func29, Tryz.ntmps29
   go_wp2_with fail
   refine wp_region_ext [] trivial (by kernel_rfl) (by kernel_rfl) ?_
   refine wpG_calc 1 rfl rfl rfl (fun u => by go_simp; rfl) ?_
   go_frame
   refine wpG_calc (v := .bool false) 2 rfl rfl rfl (fun u => by first | (go_simp; done) | (go_simp; simp [hf1])) ?_
   go_frame
   refine wpG_calc 3 rfl rfl rfl (fun u => by go_simp; rfl) ?_
   go_frame
   refine wpG_skip 4 rfl rfl ?_
   go_frame
   refine wpG_skip 5 rfl rfl ?_
   go_frame
   refine wpG_skip 6 rfl rfl ?_
   go_frame
   refine wpG_skip 7 rfl rfl ?_
   go_frame
   refine wpG_skip 8 rfl rfl ?_
   go_frame
   refine wpG_skip 9 rfl rfl ?_
   go_frame
   refine wpG_calc 10 rfl rfl rfl (fun u => by go_simp; rfl) ?_
   go_frame
   refine wpG_calc 11 rfl rfl rfl (fun u => by go_simp; rfl) ?_
   go_frame
   refine wpG_nil fun w' hb' hF => ?_
   clear hF
   have HBf := hid (HB2.out.trans (hb'.mono HB2.out.size))
   clear hb'
   go_wp2
   go_ret
   exact ⟨by rw [HZ.out]; rfl, HBf.out⟩
 by_cases h2 : k = 2
 ·subst h2
  by_cases hI : t.data.toList = [74]
  ·have HZ : Hid (doesV W H ⟨2, n⟩ t.data.toList = true) := hid (by rw [hI]; unfold doesV; simp)
   have g1 : t.toList = [74] := str_list.2 hI
   have hf1 : (t.toList == [74]) = true := by rw [g1]; rfl
   clear hI
   go_enter Tryz.func29, Tryz.ntmps29
   go_wp2
   go_ret
   exact ⟨by rw [HZ.out]; first | rfl | (simp [hf1]; done), HB2.out⟩
  ·have HZ : Hid (doesV W H ⟨2, n⟩ t.data.toList = false) := hid (by unfold doesV; simp [hI])
   have g1 : ¬ t.toList = [74] := fun h => hI (str_list.1 h)
   have hf1 : (t.toList == [74]) = false := beq_eq_false_iff_ne.2 g1
   clear hI
   go_enter Tryz.func29, Tryz.ntmps29
   go_wp2
   go_ret
   exact ⟨by rw [HZ.out]; first | rfl | (simp [hf1]; done), HB2.out⟩
 by_cases h3 : k = 3
 ·subst h3
  have HRT := hid (refs_any t)
  cases hr : refs t.data.toList with
  | false =>
   have HZ : Hid (doesV W H ⟨3, n⟩ t.data.toList = false) := hid (by unfold doesV; simp [hr])
   rw [hr] at HRT
   clear hr
   go_enter Tryz.func29, Tryz.ntmps29
   go_wp2_with fail
   refine (HRT.out _).mono ?_
   rintro e w3 ⟨rfl, rfl⟩
   go_wp2
   go_ret
   exact ⟨by rw [HZ.out]; rfl, HB2.out⟩
  | true =>
   rw [hr] at HRT
   by_cases hn0 : n < 0
   ·have HZ : Hid (doesV W H ⟨3, n⟩ t.data.toList = false) := hid (by unfold doesV; simp [hr, hn0])
    clear hr
    go_enter Tryz.func29, Tryz.ntmps29
    go_wp2_with fail
    refine (HRT.out _).mono ?_
    rintro e w3 ⟨rfl, rfl⟩
    go_wp2
    go_ret
    exact ⟨by rw [HZ.out]; rfl, HB2.out⟩
   by_cases hn1 : (H.length : Int) < n
   ·have HZ : Hid (doesV W H ⟨3, n⟩ t.data.toList = false) := hid (by unfold doesV; simp [hr, hn1])
    clear hr
    go_enter Tryz.func29, Tryz.ntmps29
    go_wp2_with fail
    refine (HRT.out _).mono ?_
    rintro e w3 ⟨rfl, rfl⟩
    go_wp2
    go_ret
    exact ⟨by rw [HZ.out]; rfl, HB2.out⟩
   by_cases hnz : n = 0
   ·subst hnz
    have HZ : Hid (doesV W H ⟨3, 0⟩ t.data.toList = true) := hid (by unfold doesV; simp [hr])
    clear hr
    go_enter Tryz.func29, Tryz.ntmps29
    go_wp2_with fail
    refine (HRT.out _).mono ?_
    rintro e w3 ⟨rfl, rfl⟩
    go_wp2
    go_ret
    exact ⟨by rw [HZ.out]; rfl, HB2.out⟩
   obtain ⟨m, rfl⟩ : ∃ m : Nat, n = (m : Int) + 1 := ⟨(n - 1).toNat, by omega⟩
   have hm : m < H.length := by omega
   obtain ⟨bb, off, hab, hd0, _⟩ := th_at (HH.out.below HB2.out) hm
   subst hab
   have HZ : Hid (doesV W H ⟨3, (m : Int) + 1⟩ t.data.toList = doesL W H[m].ty.data.toList t.data.toList) := hid (by
    unfold doesV
    have e1 : ((m : Int) + 1 - 1).toNat = m := by omega
    simp only [e1, List.getElem?_eq_getElem hm]
    rw [if_neg (by omega), if_neg (by omega), if_pos trivial, if_neg (by rintro (h | h | h); exact absurd (hr ▸ h) (by simp); omega; omega), if_neg (by omega)])
   have HD := hid (does_any W b (fun x => HW.out.good.faces' x) HW.out.most H[m].ty.size H[m].ty t W2 (Nat.le_refl _) (HTY.out _ (List.getElem_mem hm)) HT.out (HW.out.at_.below HB2.out))
   generalize H[m] = x at hd0 HZ HD
   have hw : wrap64 ((m : Int) + 1 - 1) = (m : Int) := by unfold wrap64; omega
   have hz0 : ¬ (m : Int) + 1 = 0 := by omega
   have hm0 : (0 : Int) ≤ (m : Int) := by omega
   have hm1 : (m : Int) < (H.length : Int) := by omega
   have hm2 : ¬ (m : Int) + 1 < 0 := by omega
   have hm3 : ¬ (H.length : Int) < (m : Int) + 1 := by omega
   clear hr
   go_enter Tryz.func29, Tryz.ntmps29
   go_wp2_with fail
   refine (HRT.out _).mono ?_
   rintro e w3 ⟨rfl, rfl⟩
   go_wp2_with fail
   refine HD.out.mono ?_
   rintro e w4 ⟨rfl, hb4⟩
   have HB4 := hid (HB2.out.trans (hb4.mono HB2.out.size))
   clear hb4
   go_wp2
   go_ret
   exact ⟨by rw [HZ.out]; rfl, HB4.out⟩
 ·have HZ : Hid (doesV W H ⟨k, n⟩ t.data.toList = false) := hid (by unfold doesV; simp [h1, h2, h3])
  have e1 : (k == 1) = false := by simpa using h1
  have e2 : (k == 2) = false := by simpa using h2
  have e3 : (k == 3) = false := by simpa using h3
  go_enter Tryz.func29, Tryz.ntmps29
  go_wp2
  go_ret
  exact ⟨by rw [HZ.out]; rfl, HB2.out⟩
end Go.Proofs.YtlhobhnbgdicjaaGreatDoor.worlds
namespace Go.Proofs.YtlhobhnbgdicjaaGreatDoor.worlds
open Go.RowKit lib maps classes errs ins
theorem load_mem : ∀ {l : List CV} {W V : WL} {f : Int}, load W l = (f, V) → ∀ p ∈ V, p ∈ W ∨ p.2 ∈ l
 | [], W, V, f, h, p, hp => by
  simp only [load, Prod.mk.injEq] at h
  obtain ⟨_, rfl⟩ := h
  exact .inl hp
 | c :: r, W, V, f, h, p, hp => by
  unfold load at h
  by_cases h1 : clsFault c ≠ 0
  ·rw [if_pos h1] at h
   simp only [Prod.mk.injEq] at h
   obtain ⟨_, rfl⟩ := h
   exact .inl hp
  rw [if_neg h1] at h
  by_cases h2 : (getK W c.nm).isSome = true
  ·rw [if_pos h2] at h
   simp only [Prod.mk.injEq] at h
   obtain ⟨_, rfl⟩ := h
   exact .inl hp
  rw [if_neg h2] at h
  rcases load_mem h p hp with h3 | h3
  ·rcases mem_set h3 with h4 | rfl
   ·exact .inl h4
   ·exact .inr (List.mem_cons_self ..)
  ·exact .inr (List.mem_cons_of_mem _ h3)
theorem read_inv {l : List CV} {W : WL} (h : readW l = (0, W)) : load firstW l = (0, W) ∧ l.length ≤ 10 := by
 unfold readW at h
 by_cases h0 : 10 < l.length
 ·rw [if_pos h0] at h; simp at h
 rw [if_neg h0] at h
 obtain ⟨f, V, hV⟩ : ∃ f V, load firstW l = (f, V) := ⟨_, _, rfl⟩
 rw [hV] at h
 simp only at h
 by_cases h1 : f ≠ 0
 ·rw [if_pos h1] at h
  simp only [Prod.mk.injEq] at h
  exact absurd h.1 h1
 rw [if_neg h1] at h
 obtain rfl : f = 0 := by simpa using h1
 by_cases h2 : firstF (joinFault V) l ≠ 0
 ·rw [if_pos h2] at h
  simp only [Prod.mk.injEq] at h
  exact absurd h.1 h2
 rw [if_neg h2] at h
 by_cases h3 : firstF (roundFault V) l ≠ 0
 ·rw [if_pos h3] at h
  simp at h
 rw [if_neg h3] at h
 simp only [Prod.mk.injEq, true_and] at h
 subst h
 exact ⟨hV, by omega⟩
theorem read_wd {l : List CV} {W : WL} {w : World} {b : Nat} (h : readW l = (0, W)) (hs : ∀ c ∈ l, SmallC c) (hw : WAt w b W) : Wd w b W := by
 obtain ⟨h1, h2⟩ := read_inv h
 have h3 := load_len h1
 have e : firstW.length = 2 := rfl
 refine ⟨hw, read_good h, Nat.le_trans (most_small (by omega) (fun p hp => ?_)) (by omega)⟩
 rcases load_mem h1 p hp with h4 | h4
 ·rcases List.mem_cons.1 h4 with rfl | h4
  ·simp [objC, zeroC]
  ·obtain rfl := List.mem_singleton.1 h4
   simp [fltC, zeroC]
 ·exact (hs _ h4).flen
def ReadWd (w : World) (l : List CV) (e : Ending) (w' : World) : Prop :=
 Below w.heap.size w w' ∧ (if (readW l).1 = 0 then e = .returned (.tuple #[.map (some w.heap.size), .nilIface]) ∧ Wd w' w.heap.size (readW l).2 else e = .returned (.tuple #[.map none, errVal (readW l).1]))
theorem readwd_any (va : Value) (l : List CV) (w : World) (hl : Clss w va l) (hf : FormsAt w) (hsm : ∀ c ∈ l, SmallC c) (hn : l.length ≤ 1048576) :
  Calls Tryz.prog 28 #[va] w (ReadWd w l) := by
 refine (read_any va l w hl hf hsm hn).mono ?_
 rintro e w' ⟨hb, h⟩
 refine ⟨hb, ?_⟩
 by_cases h0 : (readW l).1 = 0
 ·rw [if_pos h0] at h ⊢
  refine ⟨h.1, read_wd ?_ hsm h.2⟩
  obtain ⟨f, V, hV⟩ : ∃ f V, readW l = (f, V) := ⟨_, _, rfl⟩
  rw [hV] at h0 ⊢
  simp only at h0
  rw [h0]
 ·rw [if_neg h0] at h ⊢
  exact h
end Go.Proofs.YtlhobhnbgdicjaaGreatDoor.worlds
namespace Go.Proofs.YtlhobhnbgdicjaaGreatDoor.worlds
open Go.RowKit lib maps classes errs
structure RRow (w wr : World) (c : Nat) (x : ByteArray) (k : Nat) : Prop where
 below : Below w.heap.size w wr
 row : ∃ cur, wr.heap[w.heap.size]? = some (.cells cur 9 (0, 0)) ∧ cur.size = c ∧ ∀ j, j < k → cur[j]? = some (.string x)
theorem rrow_step {w wr : World} {c k m : Nat} {x : ByteArray} {cur : Array Value} (hb : Below w.heap.size w wr) (h : wr.heap[w.heap.size]? = some (.cells cur 9 (0, 0))) (hs : cur.size = c) (hc : ∀ j, j < k → cur[j]? = some (.string x)) (hm : k + m ≤ c) :
  RRow w (wr.setRow w.heap.size (cur.toList.take k ++ (List.replicate m (Value.string x) ++ cur.toList.drop (k + (List.replicate m (Value.string x)).length))).toArray) c x (k + m) := by
 refine ⟨lib.below_setRow hb (Nat.le_refl _) _, _, setRow_heap _ _ _ _ _ _ h, ?_, fun j hj => ?_⟩
 ·simp only [List.size_toArray, List.length_append, List.length_take, List.length_drop, List.length_replicate, Array.length_toList]
  omega
 ·simp only [List.getElem?_toArray]
  have hl : (cur.toList.take k).length = k := by rw [List.length_take, Array.length_toList]; omega
  by_cases h1 : j < k
  ·rw [List.getElem?_append_left (by omega), List.getElem?_take, if_pos h1, Array.getElem?_toList]; exact hc j h1
  ·rw [List.getElem?_append_right (by omega), hl, List.getElem?_append_left (by rw [List.length_replicate]; omega), List.getElem?_replicate, if_pos (by omega)]
set_option maxRecDepth 100000 in
set_option maxHeartbeats 8000000 in
theorem repeat_any (b c1 c : Nat) (x : ByteArray) (w : World) (hx : w.cell? ⟨b, 0, none⟩ = some (.string x)) (hc : c ≤ 2000000) :
  Calls Tryz.prog 95 #[.slice (some ⟨b, 0, none⟩) 1 c1, .int .i64 (c : Int)] w fun e w' => ∃ v, e = .returned v ∧ Sl w' v c 1 (List.replicate c (.string x)) ∧ Below w.heap.size w w' := by
 have HM := hid (Tryz.bits_Mul 1 c (by decide) (by omega) w)
 have e1 : 1 * c / 18446744073709551616 = 0 := Nat.div_eq_of_lt (by omega)
 have e2 : 1 * c % 18446744073709551616 = c := by rw [Nat.one_mul]; exact Nat.mod_eq_of_lt (by omega)
 rw [e1, e2] at HM
 have HX := hid hx
 clear hx e1 e2
 have h0 : ¬ (c : Int) < 0 := by omega
 have hcm : ¬ (9223372036854775807 : Int) < (c : Int) := by omega
 obtain ⟨M, hM⟩ : ∃ M, madeCells #[.string { data := #[] }] c = M := ⟨_, rfl⟩
 have hMs : M.size = c := by rw [← hM]; simp [madeCells]
 obtain ⟨si, hsi, hz, hsz, hby⟩ := info_parts infoS
 have hmk : (Instr.makeSlice 58 (.int .i64 (c : Int)) (.int .i64 (c : Int))).run Tryz.prog w = .ok (.slice (some ⟨w.heap.size, 0, none⟩) c c) (w.alloc (.cells M 9)) := by
  have := run_makeSlice (P := Tryz.prog) w 58 9 si _ Tryz.underlying58 hsi hz .i64 .i64 (c : Int) (c : Int) (by omega) (by omega) (by rw [hsz]; simp; omega) (by rw [hby]; omega) (by omega)
  rw [hsz] at this
  simp only [Int.toNat_natCast, Nat.mul_one] at this
  rw [show madeCells (Value.string { data := #[] }).cells c = M from hM] at this
  exact this
 obtain ⟨W1, hW1⟩ : ∃ W1, w.alloc (.cells M 9) = W1 := ⟨_, rfl⟩
 rw [hW1] at hmk
 have HB1 : Hid (Below w.heap.size w W1) := hid (hW1 ▸ ext_alloc _ _)
 have HR1 : Hid (W1.heap[w.heap.size]? = some (.cells M 9 (0, 0))) := hid (hW1 ▸ heap_alloc_new _ _)
 have HX1 : Hid (W1.cell? ⟨b, 0, none⟩ = some (.string x)) := hid ((HB1.out.cell (World.block_lt_of_cell? _ _ HX.out)).trans HX.out)
 have HMS := hid hMs
 have HN1 : Hid ((List.replicate (Nat.min 1 c) (Value.string x)).length = Nat.min 1 c) := hid (List.length_replicate ..)
 clear hM hMs hsi hz hsz hby hW1
 go_enter Tryz.func95, Tryz.ntmps95
 go_wp2_with fail
 refine HM.out.mono ?_
 rintro e w1 ⟨rfl, hww⟩
 subst hww
 go_wp2_with (refine wpList_copy_own rfl _ _ 58 58 rfl 9 Tryz.underlying58 (by kernel_rfl) w1.heap.size 0 c c ⟨b, 0, none⟩ 1 c1 rfl rfl M 9 HR1.out (List.replicate (Nat.min 1 c) (.string x)) HN1.out ?_ ?_ ?_ ?_)
 ·intro j v hj
  rw [List.getElem?_replicate] at hj
  split at hj
  ·have hm1 : Nat.min 1 c ≤ 1 := Nat.min_le_left 1 c
   obtain rfl : j = 0 := by omega
   cases hj
   exact HX1.out
  ·cases hj
 ·have hm1 : Nat.min 1 c ≤ c := Nat.min_le_right 1 c
  rw [HN1.out, HMS.out]; omega
 ·intro v hv
  rw [(List.mem_replicate.1 hv).2]; rfl
 have HRR := hid (rrow_step (k := 0) (m := Nat.min 1 c) (x := x) HB1.out HR1.out HMS.out (fun j hj => absurd hj (Nat.not_lt_zero _)) (by have hm1 : Nat.min 1 c ≤ c := Nat.min_le_right 1 c; omega))
 have hk1 : Nat.min 1 c ≤ c ∧ (0 < c → 1 ≤ Nat.min 1 c) := ⟨Nat.min_le_right 1 c, fun h => by unfold Nat.min; omega⟩
 clear hmk
 go_loopw [8] (fun v8 wr => ∃ k : Nat, k ≤ c ∧ (0 < c → 1 ≤ k) ∧ v8 = .int .i64 (k : Int) ∧ Hid (RRow w1 wr c x k)) (fun v _ => c - (intOf v).toNat)
 case atStart =>
  refine ⟨Nat.min 1 c, hk1.1, hk1.2, ?_, hid ?_⟩
  ·first | rfl | (simp [goInt]; done)
  ·have h := HRR.out
   rw [show 0 + Nat.min 1 c = Nat.min 1 c from Nat.zero_add _] at h
   first | exact h | (simpa using h)
 case round =>
  obtain ⟨k, hk, hk2, rfl, HR⟩ := hrel
  obtain ⟨hbl, cur, hrow, hcs, hcx⟩ := HR.out
  have hi0 : (0 : Int) ≤ (k : Int) := by omega
  by_cases hlt : k < c
  ·have hi1 : (k : Int) < (c : Int) := by omega
   have hi2 : (k : Int) ≤ (c : Int) := by omega
   have hck : ¬ c = k := by omega
   obtain ⟨m, hm⟩ : ∃ m, Nat.min k (c - k) = m := ⟨_, rfl⟩
   have hmv : (m = k ∧ k ≤ c - k) ∨ (m = c - k ∧ c - k ≤ k) := by
    rw [← hm]
    rcases Nat.le_total k (c - k) with h | h
    ·exact .inl ⟨Nat.min_eq_left h, h⟩
    ·exact .inr ⟨Nat.min_eq_right h, h⟩
   have hmc : k + m ≤ c := by rcases hmv with ⟨h, h'⟩ | ⟨h, h'⟩ <;> omega
   have hm1 : 1 ≤ m := by have := hk2 (by omega); rcases hmv with ⟨h, h'⟩ | ⟨h, h'⟩ <;> omega
   clear hmv
   have hwm : IntKind.i64.wrap ((k : Int) + (m : Int)) = (k : Int) + (m : Int) := by rw [IntKind.wrap_i64]; omega
   have HN2 : Hid ((List.replicate m (Value.string x)).length = Nat.min k (c - k)) := hid (by rw [List.length_replicate, hm])
   have HN3 : Hid ((List.replicate m (Value.string x)).length = m) := hid (List.length_replicate ..)
   have HSTEP := hid (rrow_step (wr := wr.drew) (m := m) hbl.drew hrow hcs hcx hmc)
   have HCS := hid hcs; have HCX := hid hcx
   have HSRC : Hid (∀ j v, (List.replicate m (Value.string x))[j]? = some v → wr.drew.cell? ((⟨w1.heap.size, 0, none⟩ : Addr).add j) = some v) := hid (fun j v hj => by
    rw [List.getElem?_replicate] at hj
    split at hj
    ·rename_i hjm
     cases hj
     rw [Addr.add_lit, Nat.zero_add, cell_of_row wr.drew _ _ _ _ _ hrow]
     have : m ≤ k := by rw [← hm]; exact Nat.min_le_left ..
     exact hcx j (by omega)
    ·cases hj)
   have hcp := run_copy_row (P := Tryz.prog) wr.drew 58 58 3 9 w1.heap.size k (c - k) (c - k) ⟨w1.heap.size, 0, none⟩ k c cur 9 (List.replicate m (Value.string x)) Tryz.underlying58 (by kernel_rfl) hrow HN2.out HSRC.out (by rw [HN3.out, hcs]; omega) (fun v hv => by rw [(List.mem_replicate.1 hv).2]; rfl)
   obtain ⟨wn, hwn⟩ : ∃ wn, wr.drew.setRow w1.heap.size (cur.toList.take k ++ (List.replicate m (Value.string x) ++ cur.toList.drop (k + (List.replicate m (Value.string x)).length))).toArray = wn := ⟨_, rfl⟩
   rw [List.append_assoc] at hcp
   rw [hwn] at hcp HSTEP
   rw [HN3.out] at hcp
   unfold goInt at hcp
   have hmn : ((m : Nat) : Int) = (m : Int) := rfl
   clear hm hbl hcs hcx hwn hrow
   go_wp2_with fail
   go_region
   go_wp2_with fail
   go_roundw
   case rel => exact ⟨k + m, hmc, fun _ => by omega, by simp, HSTEP⟩
   case measure => simp [intOf]; omega
  ·obtain rfl : k = c := by omega
   have HSL : Hid (Sl wr (.slice (some ⟨w1.heap.size, 0, none⟩) k k) k 1 (List.replicate k (.string x))) := hid (by
    refine ⟨by rw [List.length_replicate, Nat.mul_one], _, _, rfl, Nat.le_refl _, .inr ⟨_, _, rfl, fun j v hj => ?_⟩⟩
    rw [List.getElem?_replicate] at hj
    split at hj
    ·rename_i hjk
     cases hj
     rw [Nat.zero_add, cell_of_row _ _ _ _ _ _ hrow]
     exact hcx j hjk
    ·cases hj)
   have HBL := hid hbl
   clear hrow hcs hcx hbl hlt
   go_wp2
   go_ret
   exact ⟨_, rfl, HSL.out, HBL.out⟩
end Go.Proofs.YtlhobhnbgdicjaaGreatDoor.worlds
namespace Go.Proofs.YtlhobhnbgdicjaaGreatDoor.worlds
open Go.RowKit lib maps classes errs descs
theorem cutArr_any (s : ByteArray) (w : World) : Calls Tryz.prog 94 #[.string s, .string { data := #[91] }] w fun e w' =>
  e = .returned (.tuple #[.string (bs (if s.data.toList.head? = some 91 then s.data.toList.drop 1 else s.data.toList)), .bool (decide (s.data.toList.head? = some 91))]) ∧ w = w' := by
 refine (Tryz.strings_CutPrefix s { data := #[91] } w).mono ?_
 rintro e w' ⟨rfl, rfl⟩
 refine ⟨?_, rfl⟩
 show Ending.returned (.tuple #[.string ⟨(Lib.trimPrefix s.data.toList [91]).toArray⟩, .bool (Lib.hasPrefix s.data.toList [91])]) = _
 unfold Lib.trimPrefix
 rw [prefix_one]
 by_cases h1 : s.data.toList.head? = some 91
 ·rw [if_pos h1, decide_eq_true h1, if_pos rfl]; exact congrArg Ending.returned rfl
 ·rw [if_neg h1, decide_eq_false h1, if_neg (by decide)]; exact congrArg Ending.returned rfl
set_option maxRecDepth 100000 in
set_option maxHeartbeats 8000000 in
theorem htypes_any (W : WL) (b : Nat) (x : Th) (w : World) (hW : Wd w b W) (hx : Vls w x.vh x.has) (hty : isTy x.ty.data.toList = true) (hn : x.has.length ≤ 2000000) :
  Calls Tryz.prog 75 #[.map (some b), .agg #[.string x.ty, x.vh]] w fun e w' => ∃ v, e = .returned v ∧ Sl w' v (typesT W x.ty.data.toList x.has.length).length 1 ((typesT W x.ty.data.toList x.has.length).map .string) ∧ Below w.heap.size w w' := by
 obtain ⟨ty, vh, has⟩ := x
 simp only at hx hty hn ⊢
 obtain ⟨ah, ch, rfl⟩ := hx.val
 obtain ⟨y, e0, hT⟩ : ∃ y e0, ty.data.toList = y :: e0 := by
  cases h : ty.data.toList with
  | nil => rw [h] at hty; exact absurd hty (by decide)
  | cons y e0 => exact ⟨y, e0, rfl⟩
 have HW := hid hW
 have HCP := hid (cutArr_any ty)
 obtain ⟨W1, hW1⟩ : ∃ W1, w.alloc (.cells #[.string ty, .slice ah has.length ch] 42) = W1 := ⟨_, rfl⟩
 have HB1 : Hid (Below w.heap.size w W1) := hid (hW1 ▸ ext_alloc _ _)
 have hlt1 : w.heap.size < W1.heap.size := by rw [← hW1]; simp
 have hr1 : W1.heap[w.heap.size]? = some (.cells #[.string ty, .slice ah has.length ch] 42 (0, 0)) := hW1 ▸ heap_alloc_new _ _
 have x0 : W1.cell? ⟨w.heap.size, 0, none⟩ = some (.string ty) := by rw [cell_of_row _ _ _ _ _ _ hr1]; rfl
 have x1 : W1.cell? ⟨w.heap.size, 1, none⟩ = some (.slice ah has.length ch) := by rw [cell_of_row _ _ _ _ _ _ hr1]; rfl
 by_cases hy : y = 91
 ·subst hy
  have HZ : Hid (typesT W ty.data.toList has.length = List.replicate has.length (bs e0)) := hid (by rw [hT]; rfl)
  rw [hT] at HCP
  obtain ⟨E, hE⟩ : ∃ E, bs e0 = E := ⟨_, rfl⟩
  have HCP2 : Hid (∀ u, Calls Tryz.prog 94 #[.string ty, .string { data := #[91] }] u fun e w' => e = .returned (.tuple #[.string E, .bool true]) ∧ u = w') := hid (fun u => by rw [← hE]; exact HCP.out u)
  rw [hE] at HZ
  have HREP := hid (repeat_any W1.heap.size 1 has.length E (W1.alloc (.cells #[.string E] 9)) (by rw [World.cell?_alloc_at _ _ _ _ rfl]; rfl) hn)
  have HB2 : Hid (Below w.heap.size w (W1.alloc (.cells #[.string E] 9))) := hid (HB1.out.alloc HB1.out.size _)
  clear hT hE HCP hW hx hty hr1
  go_enter Tryz.func75, Tryz.ntmps75
  go_wp2_with fail
  refine (HCP2.out _).mono ?_
  rintro e w3 ⟨rfl, rfl⟩
  go_wp2_with fail
  refine HREP.out.mono ?_
  rintro e w4 ⟨v, rfl, hs4, hb4⟩
  have HS4 : Hid (Sl w4 v (typesT W ty.data.toList has.length).length 1 ((typesT W ty.data.toList has.length).map .string)) := hid (by rw [HZ.out, List.length_replicate, List.map_replicate]; exact hs4)
  have HB4 := hid (HB2.out.trans (hb4.mono HB2.out.size))
  obtain ⟨av, cv, hv⟩ := hs4.val
  subst hv
  clear hs4 hb4
  go_wp2
  go_ret
  exact ⟨_, rfl, HS4.out, HB4.out⟩
 ·have HZ : Hid (typesT W ty.data.toList has.length = layOf W (classN ty.data.toList)) := hid (by rw [hT]; show (if y = 91 then List.replicate has.length (bs e0) else layOf W (classN (y :: e0))) = _; rw [if_neg hy])
  have hh : ¬ ty.data.toList.head? = some 91 := by rw [hT]; simpa using hy
  have HCP2 : Hid (∀ u, Calls Tryz.prog 94 #[.string ty, .string { data := #[91] }] u fun e w' => ∃ E, e = .returned (.tuple #[.string E, .bool false]) ∧ u = w') := hid (fun u => (HCP.out u).mono fun e w' h => ⟨_, h.1.trans (by rw [decide_eq_false hh]), h.2⟩)
  have HCL := hid (class_any ty W1 hty)
  have HTY := hid (types_any W b (classN ty.data.toList) W1 (HW.out.below HB1.out))
  clear hT HCP hW hx hty hr1 hh hy
  go_enter Tryz.func75, Tryz.ntmps75
  go_wp2_with fail
  refine (HCP2.out _).mono ?_
  rintro e w3 ⟨E, rfl, rfl⟩
  go_wp2_with fail
  refine HCL.out.mono ?_
  rintro e w4 ⟨rfl, rfl⟩
  go_wp2_with fail
  refine HTY.out.mono ?_
  rintro e w5 ⟨v, rfl, hs5, hb5⟩
  have HS5 := hid hs5
  have HB5 := hid (HB1.out.trans (hb5.mono HB1.out.size))
  obtain ⟨av, cv, hv⟩ := hs5.val
  subst hv
  clear hs5 hb5
  go_wp2
  go_ret
  exact ⟨_, rfl, by rw [HZ.out]; exact HS5.out, HB5.out⟩
end Go.Proofs.YtlhobhnbgdicjaaGreatDoor.worlds
namespace Go.Proofs.YtlhobhnbgdicjaaGreatDoor.worlds
open Go.RowKit lib maps classes errs descs names grow
theorem refs_of_ty {l : List UInt8} (h : isTy l = true) (hw : isWd l = false) : refs l = true := by
 obtain ⟨p, t, rfl, hp, h3, ht, _⟩ := right_parts h
 cases p with
 | nil =>
  rw [List.nil_append] at hw ⊢
  rcases ht with rfl | rfl | ⟨nm, rfl, _⟩
  ·exact absurd hw (by decide)
  ·exact absurd hw (by decide)
  ·rfl
 | cons z p =>
  have := hp z (List.mem_cons_self ..)
  subst this
  rfl
set_option maxRecDepth 100000 in
theorem run_face (v0 v1 v2 v4 v5 : Value) (f : Bool) (w : World) : (Instr.field 74 (.agg #[v0, v1, v2, .bool f, v4, v5]) 3).run Tryz.prog w = .ok (.bool f) w := by
 simp [Instr.field, run_underlying Tryz.underlying74]
 first | rfl | kernel_rfl | (go_simp; done) | (go_simp; rfl)
def slR (n : Nat) : Value → World → Prop := fun v _ => ∃ a c, v = .slice a n c
theorem slR_stays (n : Nat) : ∀ v u u', Below u.heap.size u u' → slR n v u → slR n v u' := fun _ _ _ _ h => h
set_option maxRecDepth 100000 in
set_option maxHeartbeats 8000000 in
theorem formed_any (W : WL) (b : Nat) (x : Th) (w : World) (hW : Wd w b W) (hx : Vls w x.vh x.has) (hsz : x.ty.size ≤ 9223372036854775807) (hn : x.has.length ≤ 2000000) :
  Calls Tryz.prog 74 #[.map (some b), .agg #[.string x.ty, x.vh]] w fun e w' => e = .returned (errVal (formF W x)) ∧ Below w.heap.size w w' := by
 obtain ⟨ty, vh, has⟩ := x
 simp only at hx hsz hn ⊢
 obtain ⟨ah, ch, rfl⟩ := hx.val
 have HW := hid hW; have HV := hid hx; have HSZ := hid hsz; have HLN := hid hn
 obtain ⟨W1, hW1⟩ : ∃ W1, w.alloc (.cells #[.string ty, .slice ah has.length ch] 42) = W1 := ⟨_, rfl⟩
 have HB1 : Hid (Below w.heap.size w W1) := hid (hW1 ▸ ext_alloc _ _)
 have hlt1 : w.heap.size < W1.heap.size := by rw [← hW1]; simp
 have hr1 : W1.heap[w.heap.size]? = some (.cells #[.string ty, .slice ah has.length ch] 42 (0, 0)) := hW1 ▸ heap_alloc_new _ _
 have HX : Hid (∀ u, Below W1.heap.size W1 u → u.cell? ⟨w.heap.size, 0, none⟩ = some (.string ty) ∧ u.cell? ⟨w.heap.size, 1, none⟩ = some (.slice ah has.length ch)) := hid (fun u hu => by
  have h := (hu.block _ hlt1).trans hr1
  refine ⟨?_, ?_⟩ <;> (rw [cell_of_row _ _ _ _ _ _ h]; rfl))
 obtain ⟨x0, x1⟩ := HX.out _ (Below.refl _ _)
 have HCK := hid (tcheck_any ty W1 hsz)
 unfold names.Checked at HCK
 clear hW hx hsz hr1
 cases hty : isTy ty.data.toList with
 | false =>
  have HZ : Hid (formF W ⟨ty, .slice ah has.length ch, has⟩ = 1) := hid (if_pos (.inl hty))
  rw [hty, if_neg (by simp)] at HCK
  clear hty
  go_enter Tryz.func74, Tryz.ntmps74
  go_wp2_with fail
  refine HCK.out.mono ?_
  rintro e w2 ⟨rfl, hb2⟩
  have H12 := hid hb2
  have HB2 := hid (HB1.out.trans (hb2.mono HB1.out.size))
  obtain ⟨x0, x1⟩ := HX.out _ hb2
  clear hb2
  go_wp2
  go_ret
  exact ⟨by rw [HZ.out]; rfl, HB2.out⟩
 | true =>
  have HTY := hid hty
  rw [hty, if_pos rfl] at HCK
  cases hwd : isWd ty.data.toList with
  | true =>
   have HZ : Hid (formF W ⟨ty, .slice ah has.length ch, has⟩ = 1) := hid (if_pos (.inr hwd))
   have HWD := hid hwd
   clear hty hwd
   go_enter Tryz.func74, Tryz.ntmps74
   go_wp2_with fail
   refine HCK.out.mono ?_
   rintro e w2 ⟨rfl, hb2⟩
   have H12 := hid hb2
   have HB2 := hid (HB1.out.trans (hb2.mono HB1.out.size))
   obtain ⟨x0, x1⟩ := HX.out _ hb2
   clear hb2
   go_wp2_with fail
   refine (number_any ty _).mono ?_
   rintro e w3 ⟨rfl, rfl⟩
   rw [HWD.out]
   go_wp2
   go_ret
   exact ⟨by rw [HZ.out]; rfl, HB2.out⟩
  | false =>
   have HWD := hid hwd
   obtain ⟨z, hz⟩ : ∃ z, kindF W ty.data.toList = z := ⟨_, rfl⟩
   have HKZ := hid hz
   have hne0 : ¬ (isTy ty.data.toList = false ∨ isWd ty.data.toList = true) := by rw [hty, hwd]; simp
   by_cases hz0 : z = 0
   ·have hz1 : kindF W ty.data.toList = 0 := by rw [hz, hz0]
    have hfm : formF W ⟨ty, .slice ah has.length ch, has⟩ = if ty.data.toList.head? = some 76 ∧ (cAt W (classN ty.data.toList)).face = true then 7 else if (ty.data.toList.head? = some 91 ∧ 10 < has.length) ∨ (typesT W ty.data.toList has.length).length ≠ has.length then 8 else 0 := by
     unfold formF
     rw [if_neg hne0]
     simp only [hz1]
     rw [if_neg (by simp)]
    have HEV : Hid (errVal z = .nilIface) := hid (by rw [hz0]; rfl)
    obtain ⟨TL, hTLd⟩ : ∃ TL, (typesT W ty.data.toList has.length).length = TL := ⟨_, rfl⟩
    rw [hTLd] at hfm
    have HTLD := hid hTLd
    obtain ⟨y, e0, hT⟩ : ∃ y e0, ty.data.toList = y :: e0 := by
     cases h : ty.data.toList with
     | nil => rw [h] at hty; exact absurd hty (by decide)
     | cons y e0 => exact ⟨y, e0, rfl⟩
    obtain ⟨hf0, hfy⟩ := first_byte hT
    have hf0' : (0 : Int) < (ty.size : Int) := by omega
    have HCL := hid (fun u => class_any ty u hty)
    by_cases hy : y = 76
    ·subst hy
     obtain ⟨cn, hcn⟩ : ∃ cn, classN ty.data.toList = cn := ⟨_, rfl⟩
     rw [hcn] at hfm HCL
     have HLK := hid (fun (u : World) (hu : Below w.heap.size w u) => world_look (HW.out.at_.below hu) cn)
     have hat := HW.out.at_.at_ cn
     obtain ⟨q, hq⟩ : ∃ q, cAt W cn = q := ⟨_, rfl⟩
     rw [hq] at hfm HLK hat
     obtain ⟨nm, sup, vf, face, vd, vm, faces, fields, mets⟩ := q
     obtain ⟨a1, d1, a2, d2, a3, d3, e1, e2, e3⟩ := cls_vals hat
     simp only at e1 e2 e3 hfm
     subst e1 e2 e3
     simp only [CV.cells] at HLK
     have hh76 : ty.data.toList.head? = some 76 := by rw [hT]; rfl
     have hh91 : ¬ ty.data.toList.head? = some 91 := by rw [hT]; simp
     have hfl := fun u => run_face (.string nm) (.string sup) (.slice a1 faces.length d1) (.slice a2 fields.length d2) (.slice a3 mets.length d3) face u
     cases face with
     | true =>
      have HZ : Hid (formF W ⟨ty, .slice ah has.length ch, has⟩ = 7) := hid (by rw [hfm, if_pos ⟨hh76, rfl⟩])
      clear hty hwd hz hne0 hz0 hz1 hfm hTLd hT hh76 hh91 hcn hq hat
      go_enter Tryz.func74, Tryz.ntmps74
      go_wp2_with fail
      refine HCK.out.mono ?_
      rintro e w2 ⟨rfl, hb2⟩
      have H12 := hid hb2
      have HB2 := hid (HB1.out.trans (hb2.mono HB1.out.size))
      obtain ⟨x0, x1⟩ := HX.out _ hb2
      clear hb2
      go_wp2_with fail
      refine (number_any ty _).mono ?_
      rintro e w3 ⟨rfl, rfl⟩
      rw [HWD.out]
      go_wp2_with fail
      refine (kind_any W b ty _ (HW.out.at_.below HB2.out) HSZ.out).mono ?_
      rintro e w4 ⟨rfl, hb4⟩
      have H14 := hid (H12.out.trans (hb4.mono H12.out.size))
      have HB4 := hid (HB2.out.trans (hb4.mono HB2.out.size))
      obtain ⟨x0, x1⟩ := HX.out _ H14.out
      clear hb4
      rw [HKZ.out]
      rw [HEV.out]
      have hlk := HLK.out _ HB4.out
      go_wp2_with fail
      refine (HCL.out _).mono ?_
      rintro e w5 ⟨rfl, rfl⟩
      go_wp2
      go_ret
      exact ⟨by rw [HZ.out]; rfl, HB4.out⟩
     | false =>
      rw [if_neg (by simp)] at hfm
      by_cases hTL : TL = has.length
      ·have HZF : Hid (formF W ⟨ty, .slice ah has.length ch, has⟩ = 0) := hid (by rw [hfm, if_neg (by rintro (h | h); exact hh91 h.1; exact h hTL)])
       clear hty hwd hz hne0 hz0 hz1 hfm hTLd hT hh76 hh91 hcn hq hat
       go_enter Tryz.func74, Tryz.ntmps74
       go_wp2_with fail
       refine HCK.out.mono ?_
       rintro e w2 ⟨rfl, hb2⟩
       have H12 := hid hb2
       have HB2 := hid (HB1.out.trans (hb2.mono HB1.out.size))
       obtain ⟨x0, x1⟩ := HX.out _ hb2
       clear hb2
       go_wp2_with fail
       refine (number_any ty _).mono ?_
       rintro e w3 ⟨rfl, rfl⟩
       rw [HWD.out]
       go_wp2_with fail
       refine (kind_any W b ty _ (HW.out.at_.below HB2.out) HSZ.out).mono ?_
       rintro e w4 ⟨rfl, hb4⟩
       have H14 := hid (H12.out.trans (hb4.mono H12.out.size))
       have HB4 := hid (HB2.out.trans (hb4.mono HB2.out.size))
       obtain ⟨x0, x1⟩ := HX.out _ H14.out
       clear hb4
       rw [HKZ.out]
       rw [HEV.out]
       have hlk := HLK.out _ HB4.out
       go_wp2_with fail
       refine (HCL.out _).mono ?_
       rintro e w5 ⟨rfl, rfl⟩
       go_wp2_with fail
       have HU := hid H14.out
       have HBU := hid HB4.out
       refine wp_region_ext [(13, slR TL)] ⟨slR_stays _, trivial⟩ (by kernel_rfl) (by kernel_rfl) ?_
       refine wpG_calc 1 rfl rfl rfl (fun u => by go_simp; rfl) ?_
       go_frame
       refine wpG_read 2 rfl rfl (.string ty) rfl ?_ ?_
       ·intro u hu hh
        obtain ⟨y0, y1⟩ := HX.out u (HU.out.trans (hu.mono HU.out.size))
        go_simp
       go_frame
       refine wpG_calc 3 rfl rfl rfl (fun u => by go_simp; rfl) ?_
       go_frame
       refine wpG_calc (v := .bool false) 4 rfl rfl rfl (fun u => by first | (go_simp; done) | (go_simp; rfl)) ?_
       go_frame
       refine wpG_calc 5 rfl rfl rfl (fun u => by go_simp; rfl) ?_
       go_frame
       refine wpG_skip 6 rfl rfl ?_
       go_frame
       refine wpG_skip 7 rfl rfl ?_
       go_frame
       refine wpG_skip 8 rfl rfl ?_
       go_frame
       refine wpG_skip 9 rfl rfl ?_
       go_frame
       refine wpG_calc 10 rfl rfl rfl (fun u => by go_simp; rfl) ?_
       go_frame
       refine wpG_calc 11 rfl rfl rfl (fun u => by go_simp; rfl) ?_
       go_frame
       refine wpG_calc 12 rfl rfl rfl (fun u => by go_simp; rfl) ?_
       go_frame
       refine wpG_read 13 rfl rfl (.agg #[.string ty, .slice ah has.length ch]) rfl ?_ ?_
       ·intro u hu hh
        obtain ⟨y0, y1⟩ := HX.out u (HU.out.trans (hu.mono HU.out.size))
        go_simp
       go_frame
       refine wpG_rel 14 rfl rfl rfl ?_ ?_
       ·intro u hu hh
        go_simp
        refine (htypes_any W b ⟨ty, .slice ah has.length ch, has⟩ u (HW.out.below (HBU.out.trans (hu.mono HBU.out.size))) (HV.out.below (HBU.out.trans (hu.mono HBU.out.size))) HTY.out HLN.out).mono ?_
        rintro e w2 ⟨v, rfl, hs2, hb2⟩
        obtain ⟨a9, c9, h9⟩ := hs2.val
        exact ⟨_, rfl, ⟨a9, c9, h9.trans (congrArg (fun q => Value.slice a9 q c9) (by first | exact HTLD.out | exact HTLD.out.trans hTL))⟩, hb2⟩
       intro vT ⟨uT, _, hrT⟩
       obtain ⟨at_, ct, rfl⟩ := hrT
       go_frame
       refine wpG_calc 15 rfl rfl rfl (fun u => by go_simp; rfl) ?_
       go_frame
       refine wpG_calc 16 rfl rfl rfl (fun u => by go_simp; rfl) ?_
       go_frame
       refine wpG_read 17 rfl rfl (.slice ah has.length ch) rfl ?_ ?_
       ·intro u hu hh
        obtain ⟨y0, y1⟩ := HX.out u (HU.out.trans (hu.mono HU.out.size))
        go_simp
       go_frame
       refine wpG_calc 18 rfl rfl rfl (fun u => by go_simp; rfl) ?_
       go_frame
       refine wpG_calc (v := .bool false) 19 rfl rfl rfl (fun u => by first | (go_simp; done) | (go_simp; simp [hTL]; done) | (go_simp; omega)) ?_
       go_frame
       refine wpG_calc 20 rfl rfl rfl (fun u => by go_simp; rfl) ?_
       go_frame
       refine wpG_nil fun w' hb' hF => ?_
       clear hF
       have HBf := hid (HB4.out.trans (hb'.mono HB4.out.size))
       clear hb'
       go_wp2
       go_ret
       exact ⟨by rw [HZF.out]; rfl, HBf.out⟩
      ·have HZF : Hid (formF W ⟨ty, .slice ah has.length ch, has⟩ = 8) := hid (by rw [hfm, if_pos (.inr hTL)])
       clear hty hwd hz hne0 hz0 hz1 hfm hTLd hT hh76 hh91 hcn hq hat
       go_enter Tryz.func74, Tryz.ntmps74
       go_wp2_with fail
       refine HCK.out.mono ?_
       rintro e w2 ⟨rfl, hb2⟩
       have H12 := hid hb2
       have HB2 := hid (HB1.out.trans (hb2.mono HB1.out.size))
       obtain ⟨x0, x1⟩ := HX.out _ hb2
       clear hb2
       go_wp2_with fail
       refine (number_any ty _).mono ?_
       rintro e w3 ⟨rfl, rfl⟩
       rw [HWD.out]
       go_wp2_with fail
       refine (kind_any W b ty _ (HW.out.at_.below HB2.out) HSZ.out).mono ?_
       rintro e w4 ⟨rfl, hb4⟩
       have H14 := hid (H12.out.trans (hb4.mono H12.out.size))
       have HB4 := hid (HB2.out.trans (hb4.mono HB2.out.size))
       obtain ⟨x0, x1⟩ := HX.out _ H14.out
       clear hb4
       rw [HKZ.out]
       rw [HEV.out]
       have hlk := HLK.out _ HB4.out
       go_wp2_with fail
       refine (HCL.out _).mono ?_
       rintro e w5 ⟨rfl, rfl⟩
       go_wp2_with fail
       have HU := hid H14.out
       have HBU := hid HB4.out
       refine wp_region_ext [(13, slR TL)] ⟨slR_stays _, trivial⟩ (by kernel_rfl) (by kernel_rfl) ?_
       refine wpG_calc 1 rfl rfl rfl (fun u => by go_simp; rfl) ?_
       go_frame
       refine wpG_read 2 rfl rfl (.string ty) rfl ?_ ?_
       ·intro u hu hh
        obtain ⟨y0, y1⟩ := HX.out u (HU.out.trans (hu.mono HU.out.size))
        go_simp
       go_frame
       refine wpG_calc 3 rfl rfl rfl (fun u => by go_simp; rfl) ?_
       go_frame
       refine wpG_calc (v := .bool false) 4 rfl rfl rfl (fun u => by first | (go_simp; done) | (go_simp; rfl)) ?_
       go_frame
       refine wpG_calc 5 rfl rfl rfl (fun u => by go_simp; rfl) ?_
       go_frame
       refine wpG_skip 6 rfl rfl ?_
       go_frame
       refine wpG_skip 7 rfl rfl ?_
       go_frame
       refine wpG_skip 8 rfl rfl ?_
       go_frame
       refine wpG_skip 9 rfl rfl ?_
       go_frame
       refine wpG_calc 10 rfl rfl rfl (fun u => by go_simp; rfl) ?_
       go_frame
       refine wpG_calc 11 rfl rfl rfl (fun u => by go_simp; rfl) ?_
       go_frame
       refine wpG_calc 12 rfl rfl rfl (fun u => by go_simp; rfl) ?_
       go_frame
       refine wpG_read 13 rfl rfl (.agg #[.string ty, .slice ah has.length ch]) rfl ?_ ?_
       ·intro u hu hh
        obtain ⟨y0, y1⟩ := HX.out u (HU.out.trans (hu.mono HU.out.size))
        go_simp
       go_frame
       refine wpG_rel 14 rfl rfl rfl ?_ ?_
       ·intro u hu hh
        go_simp
        refine (htypes_any W b ⟨ty, .slice ah has.length ch, has⟩ u (HW.out.below (HBU.out.trans (hu.mono HBU.out.size))) (HV.out.below (HBU.out.trans (hu.mono HBU.out.size))) HTY.out HLN.out).mono ?_
        rintro e w2 ⟨v, rfl, hs2, hb2⟩
        obtain ⟨a9, c9, h9⟩ := hs2.val
        exact ⟨_, rfl, ⟨a9, c9, h9.trans (congrArg (fun q => Value.slice a9 q c9) (by first | exact HTLD.out | exact HTLD.out.trans hTL))⟩, hb2⟩
       intro vT ⟨uT, _, hrT⟩
       obtain ⟨at_, ct, rfl⟩ := hrT
       go_frame
       refine wpG_calc 15 rfl rfl rfl (fun u => by go_simp; rfl) ?_
       go_frame
       refine wpG_calc 16 rfl rfl rfl (fun u => by go_simp; rfl) ?_
       go_frame
       refine wpG_read 17 rfl rfl (.slice ah has.length ch) rfl ?_ ?_
       ·intro u hu hh
        obtain ⟨y0, y1⟩ := HX.out u (HU.out.trans (hu.mono HU.out.size))
        go_simp
       go_frame
       refine wpG_calc 18 rfl rfl rfl (fun u => by go_simp; rfl) ?_
       go_frame
       refine wpG_calc (v := .bool true) 19 rfl rfl rfl (fun u => by first | (go_simp; done) | (go_simp; simp [hTL]; done) | (go_simp; omega)) ?_
       go_frame
       refine wpG_calc 20 rfl rfl rfl (fun u => by go_simp; rfl) ?_
       go_frame
       refine wpG_nil fun w' hb' hF => ?_
       clear hF
       have HBf := hid (HB4.out.trans (hb'.mono HB4.out.size))
       clear hb'
       go_wp2
       go_ret
       exact ⟨by rw [HZF.out]; rfl, HBf.out⟩
    ·have hh76 : ¬ ty.data.toList.head? = some 76 := by rw [hT]; simpa using hy
     obtain rfl : y = 91 := by
      have h1 := refs_of_ty hty hwd
      rw [hT] at h1
      exact (refs_head.1 h1).resolve_left hy
     have hh91 : ty.data.toList.head? = some 91 := by rw [hT]; rfl
     rw [if_neg (fun h => hh76 h.1)] at hfm
     by_cases hbig : 10 < has.length
     ·have HZB : Hid (formF W ⟨ty, .slice ah has.length ch, has⟩ = 8) := hid (by rw [hfm, if_pos (.inl ⟨hh91, hbig⟩)])
      have hb1 : (10 : Int) < (has.length : Int) := by omega
      clear hty hwd hz hne0 hz0 hz1 hfm hTLd hT hy hh76 hh91
      go_enter Tryz.func74, Tryz.ntmps74
      go_wp2_with fail
      refine HCK.out.mono ?_
      rintro e w2 ⟨rfl, hb2⟩
      have H12 := hid hb2
      have HB2 := hid (HB1.out.trans (hb2.mono HB1.out.size))
      obtain ⟨x0, x1⟩ := HX.out _ hb2
      clear hb2
      go_wp2_with fail
      refine (number_any ty _).mono ?_
      rintro e w3 ⟨rfl, rfl⟩
      rw [HWD.out]
      go_wp2_with fail
      refine (kind_any W b ty _ (HW.out.at_.below HB2.out) HSZ.out).mono ?_
      rintro e w4 ⟨rfl, hb4⟩
      have H14 := hid (H12.out.trans (hb4.mono H12.out.size))
      have HB4 := hid (HB2.out.trans (hb4.mono HB2.out.size))
      obtain ⟨x0, x1⟩ := HX.out _ H14.out
      clear hb4
      rw [HKZ.out]
      rw [HEV.out]
      go_wp2_with fail
      have HU := hid H14.out
      have HBU := hid HB4.out
      refine wp_region_ext [] trivial (by kernel_rfl) (by kernel_rfl) ?_
      refine wpG_calc 1 rfl rfl rfl (fun u => by go_simp; rfl) ?_
      go_frame
      refine wpG_read 2 rfl rfl (.string ty) rfl ?_ ?_
      ·intro u hu hh
       obtain ⟨y0, y1⟩ := HX.out u (HU.out.trans (hu.mono HU.out.size))
       go_simp
      go_frame
      refine wpG_calc 3 rfl rfl rfl (fun u => by go_simp; rfl) ?_
      go_frame
      refine wpG_calc (v := .bool true) 4 rfl rfl rfl (fun u => by first | (go_simp; done) | (go_simp; rfl)) ?_
      go_frame
      refine wpG_calc 5 rfl rfl rfl (fun u => by go_simp; rfl) ?_
      go_frame
      refine wpG_calc 6 rfl rfl rfl (fun u => by go_simp; rfl) ?_
      go_frame
      refine wpG_read 7 rfl rfl (.slice ah has.length ch) rfl ?_ ?_
      ·intro u hu hh
       obtain ⟨y0, y1⟩ := HX.out u (HU.out.trans (hu.mono HU.out.size))
       go_simp
      go_frame
      refine wpG_calc 8 rfl rfl rfl (fun u => by go_simp; rfl) ?_
      go_frame
      refine wpG_calc (v := .bool true) 9 rfl rfl rfl (fun u => by first | (go_simp; done) | (go_simp; simp [hbig])) ?_
      go_frame
      refine wpG_calc 10 rfl rfl rfl (fun u => by go_simp; rfl) ?_
      go_frame
      refine wpG_calc 11 rfl rfl rfl (fun u => by go_simp; rfl) ?_
      go_frame
      refine wpG_skip 12 rfl rfl ?_
      go_frame
      refine wpG_skip 13 rfl rfl ?_
      go_frame
      refine wpG_skip 14 rfl rfl ?_
      go_frame
      refine wpG_skip 15 rfl rfl ?_
      go_frame
      refine wpG_skip 16 rfl rfl ?_
      go_frame
      refine wpG_skip 17 rfl rfl ?_
      go_frame
      refine wpG_skip 18 rfl rfl ?_
      go_frame
      refine wpG_skip 19 rfl rfl ?_
      go_frame
      refine wpG_calc 20 rfl rfl rfl (fun u => by go_simp; rfl) ?_
      go_frame
      refine wpG_nil fun w' hb' hF => ?_
      clear hF
      have HBf := hid (HB4.out.trans (hb'.mono HB4.out.size))
      clear hb'
      go_wp2
      go_ret
      exact ⟨by rw [HZB.out]; rfl, HBf.out⟩
     ·have hb1 : ¬ (10 : Int) < (has.length : Int) := by omega
      by_cases hTL : TL = has.length
      ·have HZF : Hid (formF W ⟨ty, .slice ah has.length ch, has⟩ = 0) := hid (by rw [hfm, if_neg (by rintro (h | h); exact hbig h.2; exact h hTL)])
       clear hty hwd hz hne0 hz0 hz1 hfm hTLd hT hy hh76 hh91
       go_enter Tryz.func74, Tryz.ntmps74
       go_wp2_with fail
       refine HCK.out.mono ?_
       rintro e w2 ⟨rfl, hb2⟩
       have H12 := hid hb2
       have HB2 := hid (HB1.out.trans (hb2.mono HB1.out.size))
       obtain ⟨x0, x1⟩ := HX.out _ hb2
       clear hb2
       go_wp2_with fail
       refine (number_any ty _).mono ?_
       rintro e w3 ⟨rfl, rfl⟩
       rw [HWD.out]
       go_wp2_with fail
       refine (kind_any W b ty _ (HW.out.at_.below HB2.out) HSZ.out).mono ?_
       rintro e w4 ⟨rfl, hb4⟩
       have H14 := hid (H12.out.trans (hb4.mono H12.out.size))
       have HB4 := hid (HB2.out.trans (hb4.mono HB2.out.size))
       obtain ⟨x0, x1⟩ := HX.out _ H14.out
       clear hb4
       rw [HKZ.out]
       rw [HEV.out]
       go_wp2_with fail
       have HU := hid H14.out
       have HBU := hid HB4.out
       refine wp_region_ext [(13, slR TL)] ⟨slR_stays _, trivial⟩ (by kernel_rfl) (by kernel_rfl) ?_
       refine wpG_calc 1 rfl rfl rfl (fun u => by go_simp; rfl) ?_
       go_frame
       refine wpG_read 2 rfl rfl (.string ty) rfl ?_ ?_
       ·intro u hu hh
        obtain ⟨y0, y1⟩ := HX.out u (HU.out.trans (hu.mono HU.out.size))
        go_simp
       go_frame
       refine wpG_calc 3 rfl rfl rfl (fun u => by go_simp; rfl) ?_
       go_frame
       refine wpG_calc (v := .bool true) 4 rfl rfl rfl (fun u => by first | (go_simp; done) | (go_simp; rfl)) ?_
       go_frame
       refine wpG_calc 5 rfl rfl rfl (fun u => by go_simp; rfl) ?_
       go_frame
       refine wpG_calc 6 rfl rfl rfl (fun u => by go_simp; rfl) ?_
       go_frame
       refine wpG_read 7 rfl rfl (.slice ah has.length ch) rfl ?_ ?_
       ·intro u hu hh
        obtain ⟨y0, y1⟩ := HX.out u (HU.out.trans (hu.mono HU.out.size))
        go_simp
       go_frame
       refine wpG_calc 8 rfl rfl rfl (fun u => by go_simp; rfl) ?_
       go_frame
       refine wpG_calc (v := .bool false) 9 rfl rfl rfl (fun u => by first | (go_simp; done) | (go_simp; simp [hbig])) ?_
       go_frame
       refine wpG_calc 10 rfl rfl rfl (fun u => by go_simp; rfl) ?_
       go_frame
       refine wpG_calc 11 rfl rfl rfl (fun u => by go_simp; rfl) ?_
       go_frame
       refine wpG_calc 12 rfl rfl rfl (fun u => by go_simp; rfl) ?_
       go_frame
       refine wpG_read 13 rfl rfl (.agg #[.string ty, .slice ah has.length ch]) rfl ?_ ?_
       ·intro u hu hh
        obtain ⟨y0, y1⟩ := HX.out u (HU.out.trans (hu.mono HU.out.size))
        go_simp
       go_frame
       refine wpG_rel 14 rfl rfl rfl ?_ ?_
       ·intro u hu hh
        go_simp
        refine (htypes_any W b ⟨ty, .slice ah has.length ch, has⟩ u (HW.out.below (HBU.out.trans (hu.mono HBU.out.size))) (HV.out.below (HBU.out.trans (hu.mono HBU.out.size))) HTY.out HLN.out).mono ?_
        rintro e w2 ⟨v, rfl, hs2, hb2⟩
        obtain ⟨a9, c9, h9⟩ := hs2.val
        exact ⟨_, rfl, ⟨a9, c9, h9.trans (congrArg (fun q => Value.slice a9 q c9) (by first | exact HTLD.out | exact HTLD.out.trans hTL))⟩, hb2⟩
       intro vT ⟨uT, _, hrT⟩
       obtain ⟨at_, ct, rfl⟩ := hrT
       go_frame
       refine wpG_calc 15 rfl rfl rfl (fun u => by go_simp; rfl) ?_
       go_frame
       refine wpG_calc 16 rfl rfl rfl (fun u => by go_simp; rfl) ?_
       go_frame
       refine wpG_read 17 rfl rfl (.slice ah has.length ch) rfl ?_ ?_
       ·intro u hu hh
        obtain ⟨y0, y1⟩ := HX.out u (HU.out.trans (hu.mono HU.out.size))
        go_simp
       go_frame
       refine wpG_calc 18 rfl rfl rfl (fun u => by go_simp; rfl) ?_
       go_frame
       refine wpG_calc (v := .bool false) 19 rfl rfl rfl (fun u => by first | (go_simp; done) | (go_simp; simp [hTL]; done) | (go_simp; omega)) ?_
       go_frame
       refine wpG_calc 20 rfl rfl rfl (fun u => by go_simp; rfl) ?_
       go_frame
       refine wpG_nil fun w' hb' hF => ?_
       clear hF
       have HBf := hid (HB4.out.trans (hb'.mono HB4.out.size))
       clear hb'
       go_wp2
       go_ret
       exact ⟨by rw [HZF.out]; rfl, HBf.out⟩
      ·have HZF : Hid (formF W ⟨ty, .slice ah has.length ch, has⟩ = 8) := hid (by rw [hfm, if_pos (.inr hTL)])
       clear hty hwd hz hne0 hz0 hz1 hfm hTLd hT hy hh76 hh91
       go_enter Tryz.func74, Tryz.ntmps74
       go_wp2_with fail
       refine HCK.out.mono ?_
       rintro e w2 ⟨rfl, hb2⟩
       have H12 := hid hb2
       have HB2 := hid (HB1.out.trans (hb2.mono HB1.out.size))
       obtain ⟨x0, x1⟩ := HX.out _ hb2
       clear hb2
       go_wp2_with fail
       refine (number_any ty _).mono ?_
       rintro e w3 ⟨rfl, rfl⟩
       rw [HWD.out]
       go_wp2_with fail
       refine (kind_any W b ty _ (HW.out.at_.below HB2.out) HSZ.out).mono ?_
       rintro e w4 ⟨rfl, hb4⟩
       have H14 := hid (H12.out.trans (hb4.mono H12.out.size))
       have HB4 := hid (HB2.out.trans (hb4.mono HB2.out.size))
       obtain ⟨x0, x1⟩ := HX.out _ H14.out
       clear hb4
       rw [HKZ.out]
       rw [HEV.out]
       go_wp2_with fail
       have HU := hid H14.out
       have HBU := hid HB4.out
       refine wp_region_ext [(13, slR TL)] ⟨slR_stays _, trivial⟩ (by kernel_rfl) (by kernel_rfl) ?_
       refine wpG_calc 1 rfl rfl rfl (fun u => by go_simp; rfl) ?_
       go_frame
       refine wpG_read 2 rfl rfl (.string ty) rfl ?_ ?_
       ·intro u hu hh
        obtain ⟨y0, y1⟩ := HX.out u (HU.out.trans (hu.mono HU.out.size))
        go_simp
       go_frame
       refine wpG_calc 3 rfl rfl rfl (fun u => by go_simp; rfl) ?_
       go_frame
       refine wpG_calc (v := .bool true) 4 rfl rfl rfl (fun u => by first | (go_simp; done) | (go_simp; rfl)) ?_
       go_frame
       refine wpG_calc 5 rfl rfl rfl (fun u => by go_simp; rfl) ?_
       go_frame
       refine wpG_calc 6 rfl rfl rfl (fun u => by go_simp; rfl) ?_
       go_frame
       refine wpG_read 7 rfl rfl (.slice ah has.length ch) rfl ?_ ?_
       ·intro u hu hh
        obtain ⟨y0, y1⟩ := HX.out u (HU.out.trans (hu.mono HU.out.size))
        go_simp
       go_frame
       refine wpG_calc 8 rfl rfl rfl (fun u => by go_simp; rfl) ?_
       go_frame
       refine wpG_calc (v := .bool false) 9 rfl rfl rfl (fun u => by first | (go_simp; done) | (go_simp; simp [hbig])) ?_
       go_frame
       refine wpG_calc 10 rfl rfl rfl (fun u => by go_simp; rfl) ?_
       go_frame
       refine wpG_calc 11 rfl rfl rfl (fun u => by go_simp; rfl) ?_
       go_frame
       refine wpG_calc 12 rfl rfl rfl (fun u => by go_simp; rfl) ?_
       go_frame
       refine wpG_read 13 rfl rfl (.agg #[.string ty, .slice ah has.length ch]) rfl ?_ ?_
       ·intro u hu hh
        obtain ⟨y0, y1⟩ := HX.out u (HU.out.trans (hu.mono HU.out.size))
        go_simp
       go_frame
       refine wpG_rel 14 rfl rfl rfl ?_ ?_
       ·intro u hu hh
        go_simp
        refine (htypes_any W b ⟨ty, .slice ah has.length ch, has⟩ u (HW.out.below (HBU.out.trans (hu.mono HBU.out.size))) (HV.out.below (HBU.out.trans (hu.mono HBU.out.size))) HTY.out HLN.out).mono ?_
        rintro e w2 ⟨v, rfl, hs2, hb2⟩
        obtain ⟨a9, c9, h9⟩ := hs2.val
        exact ⟨_, rfl, ⟨a9, c9, h9.trans (congrArg (fun q => Value.slice a9 q c9) (by first | exact HTLD.out | exact HTLD.out.trans hTL))⟩, hb2⟩
       intro vT ⟨uT, _, hrT⟩
       obtain ⟨at_, ct, rfl⟩ := hrT
       go_frame
       refine wpG_calc 15 rfl rfl rfl (fun u => by go_simp; rfl) ?_
       go_frame
       refine wpG_calc 16 rfl rfl rfl (fun u => by go_simp; rfl) ?_
       go_frame
       refine wpG_read 17 rfl rfl (.slice ah has.length ch) rfl ?_ ?_
       ·intro u hu hh
        obtain ⟨y0, y1⟩ := HX.out u (HU.out.trans (hu.mono HU.out.size))
        go_simp
       go_frame
       refine wpG_calc 18 rfl rfl rfl (fun u => by go_simp; rfl) ?_
       go_frame
       refine wpG_calc (v := .bool true) 19 rfl rfl rfl (fun u => by first | (go_simp; done) | (go_simp; simp [hTL]; done) | (go_simp; omega)) ?_
       go_frame
       refine wpG_calc 20 rfl rfl rfl (fun u => by go_simp; rfl) ?_
       go_frame
       refine wpG_nil fun w' hb' hF => ?_
       clear hF
       have HBf := hid (HB4.out.trans (hb'.mono HB4.out.size))
       clear hb'
       go_wp2
       go_ret
       exact ⟨by rw [HZF.out]; rfl, HBf.out⟩
   ·have HZ : Hid (formF W ⟨ty, .slice ah has.length ch, has⟩ = z) := hid (by
     unfold formF
     rw [if_neg hne0]
     simp only [hz]
     rw [if_pos hz0])
    have HEV : Hid (errVal z = .iface 28 (.int .i64 z)) := hid (by unfold errVal; rw [if_neg hz0])
    clear hty hwd hz hne0 hz0
    go_enter Tryz.func74, Tryz.ntmps74
    go_wp2_with fail
    refine HCK.out.mono ?_
    rintro e w2 ⟨rfl, hb2⟩
    have H12 := hid hb2
    have HB2 := hid (HB1.out.trans (hb2.mono HB1.out.size))
    obtain ⟨x0, x1⟩ := HX.out _ hb2
    clear hb2
    go_wp2_with fail
    refine (number_any ty _).mono ?_
    rintro e w3 ⟨rfl, rfl⟩
    rw [HWD.out]
    go_wp2_with fail
    refine (kind_any W b ty _ (HW.out.at_.below HB2.out) HSZ.out).mono ?_
    rintro e w4 ⟨rfl, hb4⟩
    have H14 := hid (H12.out.trans (hb4.mono H12.out.size))
    have HB4 := hid (HB2.out.trans (hb4.mono HB2.out.size))
    obtain ⟨x0, x1⟩ := HX.out _ H14.out
    clear hb4
    rw [HKZ.out]
    rw [HEV.out]
    go_wp2
    go_ret
    exact ⟨by rw [HZ.out, HEV.out]; rfl, HB4.out⟩
end Go.Proofs.YtlhobhnbgdicjaaGreatDoor.worlds
