/- Worlds in memory. No condition. -/
import Derived.Test.YtloonnfelgokmaaGreatDoorZWld1
import Derived.Test.YtloonnfelgokmaaGreatDoorZOwn
import Derived.Carry
import Derived.Test.YtloonnfelgokmaaGreatDoorZErrV
set_option maxRecDepth 100000
set_option maxHeartbeats 16000000
set_option linter.unusedSimpArgs false
set_option linter.unusedVariables false
namespace Go.Proofs.YtloonnfelgokmaaGreatDoor.worlds
open Go.RowKit lib maps classes
def strKey : KeyEnc ByteArray where
 d := .string
 kv := .string
 isKey := fun _ => trivial
 same := fun a b => by
  simp only [Instr.sameNow]
  congr 1
  rw [Bool.eq_iff_iff, MapKept.bytes_beq]
  simp
 bits := fun a => by
  have := (MapKept.bytes_beq a a).2 rfl
  simp [Instr.sameBits, this]
def wv (W : WL) : List (ByteArray × Value) := W.map fun p => (p.1, .agg p.2.cells.toArray)
structure WAt (w : World) (b : Nat) (W : WL) : Prop where
 map : MapIs strKey w b (wv W)
 cls : ∀ p ∈ W, p.2.At w
theorem WAt.lt {w : World} {b : Nat} {W : WL} (h : WAt w b W) : b < w.heap.size := by
 obtain ⟨es, c, h1, _⟩ := h.map
 exact (zh h1).1
theorem WAt.below {w w' : World} {b : Nat} {W : WL} (h : WAt w b W) (hb : Below w.heap.size w w') : WAt w' b W :=
 ⟨map_keep strKey h.map (hb.block b h.lt), fun p hp => (h.cls p hp).below hb⟩
theorem zero_cls (w : World) : (zeroValue 28).run Tryz.prog w = .ok (.agg zeroC.cells.toArray) w := by kernel_rfl
theorem wv_get (W : WL) (x : ByteArray) : (getK (wv W) x).getD (.agg zeroC.cells.toArray) = .agg (cAt W x).cells.toArray ∧ (getK (wv W) x).isSome = (getK W x).isSome := by
 unfold wv cAt
 rw [getK_map (fun c : CV => Value.agg c.cells.toArray)]
 cases getK W x <;> exact ⟨rfl, rfl⟩
theorem world_look {w : World} {b : Nat} {W : WL} (h : WAt w b W) (x : ByteArray) : (Instr.lookup 64 (.map (some b)) (.string x) false).run Tryz.prog w = .ok (.agg (cAt W x).cells.toArray) w := by
 have := run_look (P := Tryz.prog) (E := strKey) Tryz.underlying64 Tryz.underlying9 h.map x (zero_cls w)
 rw [show strKey.kv x = .string x from rfl] at this
 rw [this, (wv_get W x).1]
theorem world_look_ok {w : World} {b : Nat} {W : WL} (h : WAt w b W) (x : ByteArray) : (Instr.lookup 64 (.map (some b)) (.string x) true).run Tryz.prog w = .ok (.tuple #[.agg (cAt W x).cells.toArray, .bool (getK W x).isSome]) w := by
 have := run_look_ok (P := Tryz.prog) (E := strKey) Tryz.underlying64 Tryz.underlying9 h.map x (zero_cls w)
 rw [show strKey.kv x = .string x from rfl] at this
 rw [this, (wv_get W x).1, (wv_get W x).2]
theorem wv_set (W : WL) (x : ByteArray) (c : CV) : setK (wv W) x (.agg c.cells.toArray) = wv (setK W x c) := setK_map (fun c : CV => Value.agg c.cells.toArray) W x c
theorem mem_set {α : Type} {l : List (ByteArray × α)} {k : ByteArray} {v : α} {p : ByteArray × α} (h : p ∈ setK l k v) : p ∈ l ∨ p = (k, v) := by
 induction l with
 | nil => exact .inr (List.mem_singleton.1 h)
 | cons x r ih =>
  obtain ⟨j, u⟩ := x
  simp only [setK] at h
  split at h
  ·rcases List.mem_cons.1 h with h | h
   ·exact .inr h
   ·exact .inl (List.mem_cons_of_mem _ h)
  ·rcases List.mem_cons.1 h with h | h
   ·exact .inl (h ▸ List.mem_cons_self ..)
   ·exact (ih h).imp_left (List.mem_cons_of_mem _)
theorem world_set {n : Nat} {w0 w : World} {b : Nat} {W : WL} (h : WAt w b W) (hb0 : Below n w0 w) (hn : n ≤ b) (hw : n ≤ w0.heap.size) (x : ByteArray) (c : CV) (hc : c.At w0) (hall : ∀ p ∈ W, p.2.At w0) (hnw : n = w0.heap.size) :
  ∃ w', (Instr.mapUpdate 64 (.map (some b)) (.string x) (.agg c.cells.toArray)).run Tryz.prog w = .ok () w' ∧ WAt w' b (setK W x c) ∧ Below n w0 w' := by
 obtain ⟨w', h1, h2, h3⟩ := run_update (P := Tryz.prog) (E := strKey) Tryz.underlying64 Tryz.underlying9 h.map x (.agg c.cells.toArray)
 have hb : Below n w0 w' := hb0.trans ⟨h3.os, h3.tape, h3.output, h3.size, fun k hk => h3.block k (Nat.lt_of_lt_of_le hk (Nat.le_trans hw hb0.size)) (fun e => by have := Option.some.inj e; omega)⟩
 refine ⟨w', h1, ⟨by rw [← wv_set]; exact h2, fun p hp => ?_⟩, hb⟩
 subst hnw
 rcases mem_set hp with hp | rfl
 ·exact (hall p hp).below hb
 ·exact hc.below hb
open Go.RowKit lib maps classes errs
theorem slN (w : World) (n : Nat) : Sl w (.slice none 0 0) 0 n [] := ⟨by simp, _, _, rfl, Nat.le_refl _, .inl rfl⟩
theorem obj_at (w : World) : objC.At w := ⟨slN w 1, slN w 2, slN w 8, fun m hm => (List.not_mem_nil hm).elim⟩
theorem flt_at (w : World) : fltC.At w := ⟨slN w 1, slN w 2, slN w 8, fun m hm => (List.not_mem_nil hm).elim⟩
theorem zero_at (w : World) : zeroC.At w := ⟨slN w 1, slN w 2, slN w 8, fun m hm => (List.not_mem_nil hm).elim⟩
theorem WAt.at_ {w : World} {b : Nat} {W : WL} (h : WAt w b W) (n : ByteArray) : (cAt W n).At w := by
 unfold cAt
 cases hg : getK W n with
 | none => exact zero_at w
 | some c => exact h.cls _ (getK_mem hg)
theorem first_any (w : World) : Calls Tryz.prog 44 #[] w fun e w' => e = .returned (.map (some w.heap.size)) ∧ WAt w' w.heap.size firstW ∧ Below w.heap.size w w' := by
 have hmm := @run_makeMap Tryz.prog
 have M0 : WAt (w.alloc (.map #[] 0)) w.heap.size [] := ⟨⟨#[], 0, heap_alloc_new _ _, rfl⟩, fun p hp => (List.not_mem_nil hp).elim⟩
 have B0 : Below w.heap.size w (w.alloc (.map #[] 0)) := ext_alloc _ _
 obtain ⟨u1, r1, m1, b1⟩ := world_set M0 B0 (Nat.le_refl _) (Nat.le_refl _) objB objC (obj_at w) (fun p hp => (List.not_mem_nil hp).elim) rfl
 obtain ⟨u2, r2, m2, b2⟩ := world_set m1 b1 (Nat.le_refl _) (Nat.le_refl _) fltB fltC (flt_at w) (fun p hp => by
  obtain rfl := List.mem_singleton.1 (show p ∈ [(objB, objC)] from hp)
  exact obj_at w) rfl
 have HM : Hid (WAt u2 w.heap.size firstW) := hid (by
  have : setK (setK [] objB objC) fltB fltC = firstW := by simp [setK, firstW, (Ne.symm obj_flt)]
  rw [← this]; exact m2)
 have HB := hid b2
 have r1' : (Instr.mapUpdate 64 (.map (some w.heap.size)) (.string { data := #[79, 98, 106, 101, 99, 116] }) (.agg #[.string { data := #[79, 98, 106, 101, 99, 116] }, .string { data := #[] }, .slice none 0 0, .bool false, .slice none 0 0, .slice none 0 0])).run Tryz.prog (w.alloc (.map #[] 0)) = .ok () u1 := r1
 have r2' : (Instr.mapUpdate 64 (.map (some w.heap.size)) (.string { data := #[70, 97, 117, 108, 116] }) (.agg #[.string { data := #[70, 97, 117, 108, 116] }, .string { data := #[79, 98, 106, 101, 99, 116] }, .slice none 0 0, .bool false, .slice none 0 0, .slice none 0 0])).run Tryz.prog u1 = .ok () u2 := r2
 clear m1 m2 b1 b2 M0 B0 r1 r2
 go_enter Tryz.func44, Tryz.ntmps44
 go_wp2_with fail
 go_ret
 exact ⟨rfl, HM.out, HB.out⟩
theorem cls_vals {c : CV} {w : World} (h : c.At w) : ∃ a1 c1 a2 c2 a3 c3, c.vf = .slice a1 c.faces.length c1 ∧ c.vd = .slice a2 c.fields.length c2 ∧ c.vm = .slice a3 c.mets.length c3 := by
 obtain ⟨a1, c1, h1⟩ := h.faces.val
 obtain ⟨a2, c2, h2⟩ := h.fields.val
 obtain ⟨a3, c3, h3⟩ := h.mets.sl.val
 exact ⟨a1, c1, a2, c2, a3, c3, h1, h2, h3⟩
theorem noB_iff (s : ByteArray) : s = noB ↔ s.toList = [] := by
 rw [ByteArray.toList_eq]
 constructor
 ·rintro rfl; rfl
 ·intro h
  cases s with
  | mk d =>
   have : d = #[] := by simpa using h
   subst this; rfl
theorem out_one {w0 W : World} (h : Below w0.heap.size w0 W) (e : TypeId) (q : Value) : Out w0 (W.alloc (.cells #[q] e)) e 1 (.slice (some ⟨W.heap.size, 0, none⟩) 1 1) 1 [q] :=
 ⟨⟨rfl, .inr ⟨W.heap.size, 1, #[q], rfl, h.size, heap_alloc_new _ _, Nat.le_refl _, by unfold maxLen; omega, rfl, rfl⟩⟩, h.alloc h.size _⟩
theorem infoS : (Tryz.prog.info? 9).map (fun i => (i.zero, i.size, i.bytes)) = some (some (.string { data := #[] }), 1, 16) := by kernel_rfl
theorem above_any (W : WL) (b : Nat) (n : ByteArray) (w : World) (hW : WAt w b W) (hs : (cAt W n).faces.length ≤ 1048576) :
  Calls Tryz.prog 87 #[.map (some b), .string n] w fun e w' => ∃ v, e = .returned v ∧ Sl w' v (above W n).length 1 ((above W n).map .string) ∧ Below w.heap.size w w' ∧ (v = (cAt W n).vf ∨ ∀ g, v.ownBlock = some g → w.heap.size ≤ g) := by
 have hlk := world_look hW n
 have hat := hW.at_ n
 unfold above
 obtain ⟨⟨nm, sup, vf, face, vd, vm, faces, fields, mets⟩, hc⟩ : ∃ c, cAt W n = c := ⟨_, rfl⟩
 rw [hc] at hlk hat hs ⊢
 obtain ⟨a1, c1, a2, c2, a3, c3, e1, e2, e3⟩ := cls_vals hat
 simp only at e1 e2 e3 hs
 subst e1 e2 e3
 simp only [CV.cells] at hlk
 have HF : Hid (Sl w (.slice a1 faces.length c1) faces.length 1 (faces.map .string)) := hid hat.faces
 clear hat hc hW
 by_cases h0 : sup = noB
 ·have hA : aboveC ⟨nm, sup, .slice a1 faces.length c1, face, .slice a2 fields.length c2, .slice a3 mets.length c3, faces, fields, mets⟩ = faces := if_pos h0
  rw [hA]
  have h1 := (noB_iff sup).1 h0
  have h2 : (sup.toList == []) = true := by rw [h1]; rfl
  clear hA h0
  go_enter Tryz.func87, Tryz.ntmps87
  go_wp2
  go_ret
  exact ⟨_, rfl, HF.out.below (ext_alloc _ _), ext_alloc _ _, .inl rfl⟩
 ·have hA : aboveC ⟨nm, sup, .slice a1 faces.length c1, face, .slice a2 fields.length c2, .slice a3 mets.length c3, faces, fields, mets⟩ = sup :: faces := if_neg h0
  rw [hA]
  have h1 : ¬ sup.toList = [] := fun h => h0 ((noB_iff sup).2 h)
  have h2 : (sup.toList == []) = false := beq_eq_false_iff_ne.2 h1
  clear hA h0
  go_enter Tryz.func87, Tryz.ntmps87
  obtain ⟨W1, hW1⟩ : ∃ W1, w.alloc (.cells #[.string nm, .string sup, .slice a1 faces.length c1, .bool face, .slice a2 fields.length c2, .slice a3 mets.length c3] 28) = W1 := ⟨_, rfl⟩
  have HB1 : Hid (Below w.heap.size w W1) := hid (hW1 ▸ ext_alloc _ _)
  have hlt : w.heap.size < W1.heap.size := by rw [← hW1]; simp
  have HR1 : Hid (W1.heap[w.heap.size]? = some (.cells #[.string nm, .string sup, .slice a1 faces.length c1, .bool face, .slice a2 fields.length c2, .slice a3 mets.length c3] 28 (0, 0))) := hid (hW1 ▸ heap_alloc_new _ _)
  have k1 : W1.cell? ⟨w.heap.size, 1, none⟩ = some (.string sup) := by rw [cell_of_row _ _ _ _ _ _ HR1.out]; rfl
  have k2 : W1.cell? ⟨w.heap.size, 2, none⟩ = some (.slice a1 faces.length c1) := by rw [cell_of_row _ _ _ _ _ _ HR1.out]; rfl
  have HO1 : Hid (Out w (W1.alloc (.cells #[.string sup] 9)) 9 1 (.slice (some ⟨W1.heap.size, 0, none⟩) 1 1) 1 [.string sup]) := hid (out_one HB1.out 9 (.string sup))
  have HF1 : Hid (Sl (W1.alloc (.cells #[.string sup] 9)) (.slice a1 faces.length c1) faces.length 1 (faces.map .string)) := hid (HF.out.below (HB1.out.alloc HB1.out.size _))
  have HO : Hid (∀ u ∈ faces.map Value.string, u.oneCell' = true) := hid (fun u hu => by obtain ⟨y, _, rfl⟩ := List.mem_map.1 hu; rfl)
  go_wp2_with (at_builtin; refine wpList_append_src_at w _ rfl _ _ 24 rfl 9 (.string { data := #[] }) 1 16 faces.length Tryz.underlying24 infoS rfl (by decide) _ _ _ HO1.out rfl _ _ HF1.out rfl HO.out (by omega) (by omega) (fun v' w' ho hg hat => ?_))
  go_wp2
  go_ret
  exact ⟨_, rfl, by have := ho.sl; rw [Nat.add_comm] at this; exact this, ho.below, .inr fun g h => (ho.own.lt g h).1⟩
theorem line_head {W : WL} {n : ByteArray} {l : List ByteArray} (h : Line W n l) : ∃ r, l = n :: r := by
 cases h with
 | stop _ => exact ⟨[], rfl⟩
 | up _ _ => exact ⟨_, rfl⟩
theorem line_step {W : WL} {n : ByteArray} {l : List ByteArray} (h : Line W n l) : ∀ k (hk : k < l.length),
  ((cAt W l[k]).sup = noB → k + 1 = l.length) ∧ ((cAt W l[k]).sup ≠ noB → ∃ h : k + 1 < l.length, l[k + 1] = (cAt W l[k]).sup) := by
 induction h with
 | stop h0 =>
  intro k hk
  obtain rfl : k = 0 := by simpa using hk
  exact ⟨fun _ => rfl, fun h => absurd h0 h⟩
 | up h0 hl ih =>
  intro k hk
  cases k with
  | zero =>
   obtain ⟨r, hr⟩ := line_head hl
   refine ⟨fun h => absurd h h0, fun _ => ⟨by rw [hr]; simp, ?_⟩⟩
   simp [hr]
  | succ k =>
   have h1 := ih k (by simpa using hk)
   simp only [List.getElem_cons_succ, List.length_cons]
   refine ⟨fun h => by rw [h1.1 h], fun h => ?_⟩
   obtain ⟨h2, h3⟩ := h1.2 h
   exact ⟨by omega, h3⟩
theorem out_setRow {w0 w : World} {e : TypeId} {s : Nat} {v : Value} {n : Nat} {xs : List Value} {g : Nat} (h : Out w0 w e s v n xs) (ha : v.ownBlock ≠ some g) (hg : w0.heap.size ≤ g) (cs : Array Value) : Out w0 (w.setRow g cs) e s v n xs := by
 refine ⟨⟨h.own.1, ?_⟩, lib.below_setRow h.below hg cs⟩
 rcases h.own.2 with h1 | ⟨g', cap, cur, rfl, h2, h3, h4⟩
 ·exact .inl h1
 ·exact .inr ⟨g', cap, cur, rfl, h2, (setRow_other w g g' cs (fun e => ha (by rw [e]; rfl))).trans h3, h4⟩
def vlen : Value → Nat | .slice _ n _ => n | _ => 0
structure LRel (w0 w : World) (W : WL) (l : List ByteArray) (k : Nat) (v : Value) (B : Nat) : Prop where
 out : Out w0 w 9 1 v (k + 1) ((l.take (k + 1)).map .string)
 row : w.heap[B]? = some (.cells (cAt W (l.getD k noB)).cells.toArray 28 (0, 0))
 new : w0.heap.size ≤ B
 ap : v.ownBlock ≠ some B
theorem c_info : (Tryz.prog.info? 28).map (·.size) = some 6 := by kernel_rfl
theorem line_any (W : WL) (b : Nat) (n : ByteArray) (l : List ByteArray) (w : World) (hW : WAt w b W) (hl : Line W n l) (hn : l.length ≤ 100000000) :
  Calls Tryz.prog 21 #[.map (some b), .string n] w fun e w' => ∃ v, e = .returned v ∧ Out w w' 9 1 v l.length (l.map .string) := by
 have HW := hid hW
 have HST := hid (line_step hl)
 obtain ⟨l0, hl0⟩ := line_head hl
 have HL0 : Hid (0 < l.length ∧ l.getD 0 noB = n ∧ l.take 1 = [n]) := hid (by subst hl0; simp)
 obtain ⟨W1, hW1⟩ : ∃ W1, w.alloc (.cells #[.string n] 9) = W1 := ⟨_, rfl⟩
 have HB1 : Hid (Below w.heap.size w W1) := hid (hW1 ▸ ext_alloc _ _)
 have HO1 : Hid (Out w W1 9 1 (.slice (some ⟨w.heap.size, 0, none⟩) 1 1) 1 [.string n]) := hid (hW1 ▸ out_one (Below.refl _ _) 9 (.string n))
 have hlt1 : w.heap.size < W1.heap.size := by rw [← hW1]; simp
 have hlk := world_look (HW.out.below HB1.out) n
 have hat := (HW.out.below HB1.out).at_ n
 clear hW hl hl0
 obtain ⟨⟨nm, sup, vf, face, vd, vm, faces, fields, mets⟩, hc⟩ : ∃ c, cAt W n = c := ⟨_, rfl⟩
 have HC := hid hc
 rw [hc] at hlk hat
 obtain ⟨a1, c1, a2, c2, a3, c3, e1, e2, e3⟩ := cls_vals hat
 simp only at e1 e2 e3
 subst e1 e2 e3
 simp only [CV.cells] at hlk
 clear hat hc
 obtain ⟨W2, hW2⟩ : ∃ W2, W1.alloc (.cells #[.string nm, .string sup, .slice a1 faces.length c1, .bool face, .slice a2 fields.length c2, .slice a3 mets.length c3] 28) = W2 := ⟨_, rfl⟩
 have HR0 : Hid (LRel w W2 W l 0 (.slice (some ⟨w.heap.size, 0, none⟩) 1 1) W1.heap.size) := hid ⟨by
  rw [HL0.out.2.2, ← hW2]; exact HO1.out.alloc _, by
  rw [HL0.out.2.1, HC.out, ← hW2]; exact heap_alloc_new _ _, HB1.out.size, by simp [Value.ownBlock]; omega⟩
 clear HO1 HC
 go_enter Tryz.func21, Tryz.ntmps21
 go_wp2
 clear hlk hW1 hW2 hlt1
 go_loopw [5, 6] (fun v5 v6 wr => ∃ k B, k < l.length ∧ v6 = .pointer (some ⟨B, 0, none⟩) ∧ Hid (LRel w wr W l k v5 B)) (fun v5 _ _ => l.length - vlen v5)
 case atStart => exact ⟨0, _, HL0.out.1, rfl, HR0⟩
 case round =>
  obtain ⟨k, B, hk, rfl, HR⟩ := hrel
  clear HR0
  obtain ⟨m, hm⟩ : ∃ m, l[k] = m := ⟨_, rfl⟩
  have HWR := hid (HW.out.below HR.out.out.below)
  have hat := HWR.out.at_ m
  have hrow := HR.out.row
  have hst := HST.out k hk
  rw [show l.getD k noB = m from by simp [List.getD, List.getElem?_eq_getElem hk, hm]] at hrow
  rw [hm] at hst
  obtain ⟨⟨nm', sup', vf', face', vd', vm', faces', fields', mets'⟩, hc⟩ : ∃ c, cAt W m = c := ⟨_, rfl⟩
  rw [hc] at hat hrow hst
  obtain ⟨b1, d1, b2, d2, b3, d3, e1, e2, e3⟩ := cls_vals hat
  simp only at e1 e2 e3 hst
  subst e1 e2 e3
  simp only [CV.cells] at hrow
  have HROW := hid hrow
  have HST1 := hid hst
  have k1 : wr.cell? ⟨B, 1, none⟩ = some (.string sup') := by rw [cell_of_row _ _ _ _ _ _ hrow]; rfl
  obtain ⟨av, cv, rfl⟩ := HR.out.out.sl.val
  clear hat hrow hst hc
  by_cases h0 : sup' = noB
  ·have HE := hid (HST1.out.1 h0)
   have h2 : (sup'.toList == []) = true := by rw [(noB_iff sup').1 h0]; rfl
   have h1 := (noB_iff sup').1 h0
   clear h0
   go_wp2
   go_ret
   refine ⟨_, rfl, ?_⟩
   have h5 : l.take (k + 1) = l := by rw [HE.out, List.take_length]
   have := HR.out.out
   rw [h5] at this
   show Out w wr 9 1 (.slice av (k + 1) cv) l.length (l.map .string)
   rw [← HE.out]
   exact this
  ·have h1 : ¬ sup'.toList = [] := fun h => h0 ((noB_iff sup').2 h)
   have h2 : (sup'.toList == []) = false := beq_eq_false_iff_ne.2 h1
   have HE := hid (HST1.out.2 h0)
   clear h0
   go_wp2_with (at_builtin; refine wpList_append_lit_at w wr _ rfl _ _ 24 rfl 9 (.string { data := #[] }) 1 16 1 Tryz.underlying24 infoS rfl (by decide) _ _ _ HR.out.out rfl rfl rfl ?_ ?_ ?_ ?_)
   all_goals first | (intro v2 w2 ho2 hg2 hat2) | omega | (simp [Value.oneCell']; done) | skip
   have hBlt : B < wr.heap.size := (zh HROW.out).1
   have HROW2 : Hid (w2.heap[B]? = some (.cells #[.string nm', .string sup', .slice b1 faces'.length d1, .bool face', .slice b2 fields'.length d2, .slice b3 mets'.length d3] 28 (0, 0))) := hid ((hg2.block B hBlt (fun e => HR.out.ap e.symm)).trans HROW.out)
   have HO2 := hid ho2
   have HAT2 := hid hat2
   have hBlt2 : B < w2.heap.size := (zh HROW2.out).1
   have HV2 : Hid (v2.ownBlock ≠ some w2.heap.size) := hid (fun e => by
    have := (ho2.own.lt _ e).2
    omega)
   obtain ⟨a4, c4, hv2⟩ := ho2.sl.val
   subst hv2
   have q0 : w2.cell? ⟨B, 0, none⟩ = some (.string nm') := by rw [cell_of_row _ _ _ _ _ _ HROW2.out]; rfl
   have q1 : w2.cell? ⟨B, 1, none⟩ = some (.string sup') := by rw [cell_of_row _ _ _ _ _ _ HROW2.out]; rfl
   have q2 : w2.cell? ⟨B, 2, none⟩ = some (.slice b1 faces'.length d1) := by rw [cell_of_row _ _ _ _ _ _ HROW2.out]; rfl
   have q3 : w2.cell? ⟨B, 3, none⟩ = some (.bool face') := by rw [cell_of_row _ _ _ _ _ _ HROW2.out]; rfl
   have q4 : w2.cell? ⟨B, 4, none⟩ = some (.slice b2 fields'.length d2) := by rw [cell_of_row _ _ _ _ _ _ HROW2.out]; rfl
   have q5 : w2.cell? ⟨B, 5, none⟩ = some (.slice b3 mets'.length d3) := by rw [cell_of_row _ _ _ _ _ _ HROW2.out]; rfl
   obtain ⟨W3, hW3⟩ : ∃ W3, w2.alloc (.cells #[.string nm', .string sup', .slice b1 faces'.length d1, .bool face', .slice b2 fields'.length d2, .slice b3 mets'.length d3] 28) = W3 := ⟨_, rfl⟩
   have HR3 : Hid (W3.heap[w2.heap.size]? = some (.cells #[.string nm', .string sup', .slice b1 faces'.length d1, .bool face', .slice b2 fields'.length d2, .slice b3 mets'.length d3] 28 (0, 0))) := hid (hW3 ▸ heap_alloc_new _ _)
   have HO3 : Hid (Out w W3 9 1 (.slice a4 (k + 1 + 1) c4) (k + 1 + 1) ((l.take (k + 1 + 1)).map .string)) := hid (by
    obtain ⟨h5, h6⟩ := HE.out
    have := ho2.alloc (.cells #[.string nm', .string sup', .slice b1 faces'.length d1, .bool face', .slice b2 fields'.length d2, .slice b3 mets'.length d3] 28)
    rw [hW3] at this
    have e : (l.take (k + 1 + 1)).map Value.string = (l.map Value.string).take (k + 1) ++ [Value.string sup'] := by
     rw [List.take_add_one, List.getElem?_eq_getElem h5, h6, List.map_append, List.map_take]; rfl
    rw [e]
    first | exact this | (rw [List.map_take] at this; exact this))
   have p1 : W3.cell? ⟨w2.heap.size, 1, none⟩ = some (.string sup') := by rw [cell_of_row _ _ _ _ _ _ HR3.out]; rfl
   have hlk3 := world_look (HW.out.below HO3.out.below) sup'
   have hat3 := (HW.out.below HO3.out.below).at_ sup'
   obtain ⟨⟨nm4, sup4, vf4, face4, vd4, vm4, faces4, fields4, mets4⟩, hc4⟩ : ∃ c, cAt W sup' = c := ⟨_, rfl⟩
   have HC4 := hid hc4
   rw [hc4] at hlk3 hat3
   obtain ⟨b5, d5, b6, d6, b7, d7, e1, e2, e3⟩ := cls_vals hat3
   simp only at e1 e2 e3
   subst e1 e2 e3
   simp only [CV.cells] at hlk3
   clear hat3 hc4 ho2 hg2 hat2 k1
   go_wp2_with (first | (refine wpList_store_row rfl 28 _ _ rfl w2.heap.size #[.string nm4, .string sup4, .slice b5 faces4.length d5, .bool face4, .slice b6 fields4.length d6, .slice b7 mets4.length d7] rfl rfl 28 _ HR3.out c_info rfl (by simp [Value.oneCell']) ?_))
   simp only [Act.put]
   go_roundw
   case rel =>
    obtain ⟨h5, h6⟩ := HE.out
    refine ⟨k + 1, w2.heap.size, h5, rfl, hid ⟨out_setRow HO3.out HV2.out HO2.out.below.size _, ?_, HO2.out.below.size, HV2.out⟩⟩
    rw [show l.getD (k + 1) noB = sup' from by simp [List.getD, List.getElem?_eq_getElem h5, h6], HC4.out]
    exact setRow_heap _ _ _ _ _ _ HR3.out
   case measure =>
    obtain ⟨h5, h6⟩ := HE.out
    simp [vlen]; omega
end Go.Proofs.YtloonnfelgokmaaGreatDoor.worlds
