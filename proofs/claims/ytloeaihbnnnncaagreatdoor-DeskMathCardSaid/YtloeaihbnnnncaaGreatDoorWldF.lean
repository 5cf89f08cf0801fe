/- Where fields lie: lay.slots, lay.Types. Condition: the world was read. -/
import Derived.Test.YtloeaihbnnnncaaGreatDoorWldC
set_option linter.unusedSimpArgs false
set_option linter.unusedVariables false
namespace Go.Proofs.YtloeaihbnnnncaaGreatDoor.worlds
open Go.RowKit Go.Proofs.YtloeaihbnnnncaaGreatDoor.lib Go.Proofs.YtloeaihbnnnncaaGreatDoor.maps Go.Proofs.YtloeaihbnnnncaaGreatDoor.classes Go.Proofs.YtloeaihbnnnncaaGreatDoor.errs

/-- a world that was read, in memory -/
structure Wd (w : World) (b : Nat) (W : WL) : Prop where
  at_ : WAt w b W
  good : GoodW W
  most : most W ≤ 13000001
theorem Wd.below {w w' : World} {b : Nat} {W : WL} (h : Wd w b W) (hb : Below w.heap.size w w') : Wd w' b W := ⟨h.at_.below hb, h.good, h.most⟩
theorem GoodW.faces' {W : WL} (h : GoodW W) (x : ByteArray) : (cAt W x).faces.length ≤ 1048576 := by
  unfold cAt
  cases hg : getK W x with
  | none => simp [zeroC]
  | some c => have := h.faces x c hg; simp only [Option.getD_some]; omega
theorem GoodW.fields' {W : WL} (h : GoodW W) (x : ByteArray) : (cAt W x).fields.length ≤ 8 := by
  unfold cAt
  cases hg : getK W x with
  | none => simp [zeroC]
  | some c => have := h.fields x c hg; simp only [Option.getD_some]; omega

theorem rev_any {w0 w : World} {v : Value} {l : List ByteArray} (ho : Out w0 w 9 1 v l.length (l.map .string)) (h1 : 1 ≤ l.length) (hsz : l.length ≤ 1000000000) :
    Calls Tryz.prog 24 #[v] w fun e w' => e = .returned (.tuple #[]) ∧ Sl w' v l.length 1 (l.reverse.map .string) ∧ Below w0.heap.size w0 w' := by
  rcases ho.own.2 with ⟨_, h0⟩ | ⟨g, cap, cur, rfl, hg, hrow, hc, _, hcs, hxs⟩
  · omega
  rw [Nat.mul_one] at hxs
  obtain ⟨ss, hss⟩ : ∃ ss, l.map (fun x => x.data.toList) = ss := ⟨_, rfl⟩
  have hsl : ss.length = l.length := by rw [← hss, List.length_map]
  have hgl : g < w.heap.size := (Array.getElem?_eq_some_iff.1 hrow).1
  have hH : Go.Sort.Holds Go.Proofs.encStr w g 0 ss.toArray := by
    intro j hj
    have hjl : j < l.length := by rw [← hsl]; simpa using hj
    refine ⟨?_, ?_⟩
    · rw [Nat.zero_add, cell_of_row _ _ _ _ _ _ hrow]
      have e1 : (cur.toList.take l.length)[j]? = cur[j]? := by rw [List.getElem?_take, if_pos hjl, Array.getElem?_toList]
      rw [← e1, hxs, List.getElem?_map, List.getElem?_eq_getElem hjl]
      have e2 : ss.toArray[j]! = l[j].data.toList := by
        subst hss
        simp [hjl]
      rw [e2]
      simp [Go.Proofs.encStr]
    · exact frozen_of_row _ _ _ _ _ hrow
  have hrun := Tryz.slices_Reverse_string g 0 cap ss w hH (by omega)
  rw [hsl] at hrun
  refine hrun.mono ?_
  rintro e w' ⟨rfl, n, rfl⟩
  have hB := below_sorted ho.below hg n ss.reverse.toArray #[]
  rw [Go.Sort.grow_empty] at hB
  refine ⟨rfl, ?_, hB⟩
  obtain ⟨d, hd⟩ : ∃ d, ss.reverse = d := ⟨_, rfl⟩
  rw [hd]
  have hdl : d.length = ss.length := by rw [← hd, List.length_reverse]
  have hG := Go.Sort.holds_putRow Go.Proofs.encStr (Go.Sort.ahead w n) g 0 ss.toArray d.toArray hH (by simpa using hdl)
  have hsb : l.reverse = d.map fun x => ⟨x.toArray⟩ := by
    rw [← hd, ← hss, List.map_reverse, List.map_map]
    congr 1
    have : ((fun x : List UInt8 => (⟨x.toArray⟩ : ByteArray)) ∘ fun x : ByteArray => x.data.toList) = id := by funext x; rfl
    rw [this, List.map_id]
  refine ⟨by rw [List.length_map, List.length_reverse, Nat.mul_one], _, _, rfl, hc, .inr ⟨g, 0, rfl, fun j u hj => ?_⟩⟩
  rw [hsb, List.map_map, List.getElem?_map] at hj
  have hjd : j < d.length := by
    rcases Nat.lt_or_ge j d.length with h | h
    · exact h
    · rw [List.getElem?_eq_none h] at hj; cases hj
  rw [List.getElem?_eq_getElem hjd] at hj
  have := (hG j (by simpa using hjd)).1
  rw [this]
  have e3 : d.toArray[j]! = d[j] := by simp [hjd]
  rw [e3]
  simpa [Go.Proofs.encStr] using hj

/-- a field's place: whose it is, and it -/
abbrev SF := ByteArray × classes.Fd
def scell (p : SF) : List Value := [.string p.1, .string p.2.nm, .string p.2.ty]
def fieldsOf (W : WL) (c : ByteArray) : List SF := (cAt W c).fields.map fun f => (c, f)
def upTo (W : WL) (R : List ByteArray) (i : Nat) : List SF := (R.take i).flatMap (fieldsOf W)
theorem upTo_step {W : WL} {R : List ByteArray} {i : Nat} (h : i < R.length) : upTo W R (i + 1) = upTo W R i ++ fieldsOf W R[i] := by
  unfold upTo
  rw [List.take_add_one, List.getElem?_eq_getElem h, List.flatMap_append]
  simp
theorem upTo_len {W : WL} (h : GoodW W) (R : List ByteArray) : ∀ i, (upTo W R i).length ≤ 8 * i
  | 0 => by simp [upTo]
  | i + 1 => by
    have ih := upTo_len h R i
    by_cases hi : i < R.length
    · rw [upTo_step hi, List.length_append]
      have := h.fields' R[i]
      unfold fieldsOf
      rw [List.length_map]; omega
    · have : upTo W R (i + 1) = upTo W R i := by unfold upTo; rw [List.take_of_length_le (by omega), List.take_of_length_le (by omega)]
      rw [this]; omega
theorem infoL : (Tryz.prog.info? 271).map (fun i => (i.zero, i.size, i.bytes)) = some (some (.agg #[.string { data := #[] }, .string { data := #[] }, .string { data := #[] }]), 3, 48) := by kernel_rfl

set_option maxRecDepth 100000 in
theorem run_fields (v0 v1 v2 v3 v5 : Value) (a : Option Addr) (n c : Nat) (w : World) : (Instr.field 28 (.agg #[v0, v1, v2, v3, .slice a n c, v5]) 4).run Tryz.prog w = .ok (.slice a n c) w := by
  simp [Instr.field, run_underlying Tryz.underlying28]
  first | rfl | kernel_rfl | (go_simp; done) | (go_simp; rfl)

set_option maxRecDepth 100000 in
set_option maxHeartbeats 8000000 in
theorem slots_any (W : WL) (b : Nat) (n : ByteArray) (w : World) (hW : Wd w b W) :
    Calls Tryz.prog 210 #[.map (some b), .string n] w fun e w' => ∃ v, e = .returned v ∧ Sl w' v (upTo W (lineOf W n).reverse (lineOf W n).length).length 3 ((upTo W (lineOf W n).reverse (lineOf W n).length).flatMap scell) ∧ Below w.heap.size w w' := by
  have HW := hid hW
  obtain ⟨hl, hll⟩ := line_of hW.good.sound n
  obtain ⟨L, hL⟩ : ∃ L, lineOf W n = L := ⟨_, rfl⟩
  rw [hL] at hl hll ⊢
  have hL1 : 1 ≤ L.length := line_pos hl
  have hL2 : L.length ≤ 13000001 := Nat.le_trans hll hW.most
  have HLN := hid (line_any W b n L w hW.at_ hl (by omega))
  obtain ⟨R, hR⟩ : ∃ R, L.reverse = R := ⟨_, rfl⟩
  obtain ⟨m, hm⟩ : ∃ m, L.length = m := ⟨_, rfl⟩
  have hRm : R.length = m := by rw [← hR, List.length_reverse, hm]
  have HREVL := hid (fun (u : World) v (ho : Out w u 9 1 v L.length (L.map .string)) => rev_any ho hL1 (by omega))
  rw [hm] at HLN HREVL hL1 hL2
  rw [hR] at HREVL ⊢
  rw [hm]
  clear hl hll hL hW hR hm
  go_enter Tryz.func210, Tryz.ntmps210
  go_wp2_with fail
  refine HLN.out.mono ?_
  rintro e w1 ⟨v1, rfl, ho1⟩
  have HREV := hid (HREVL.out _ _ ho1)
  obtain ⟨g1, c1, hv1⟩ := ho1.sl.val
  subst hv1
  clear ho1 HLN
  go_wp2_with fail
  refine HREV.out.mono ?_
  rintro e w3 ⟨rfl, hs3, hb3⟩
  rw [← hRm] at hs3
  have HS3 := hid hs3
  rw [hRm] at HS3
  have HB3 := hid hb3
  have HW3 := hid (HW.out.below hb3)
  have HRM := hid hRm
  have HS3b : Hid (Sl w3 (.slice g1 m c1) R.length 1 (R.map .string)) := hid (by rw [HRM.out]; exact HS3.out)
  clear hs3 hb3 HREV HREVL HS3
  have HS3 := HS3b
  clear HS3b
  go_wp2
  go_loopw [5, 18] (fun v5 v18 wr => ∃ i : Nat, i ≤ m ∧ v18 = .int .i64 (i : Int) ∧ Hid (Out w3 wr 271 3 v5 (upTo W R i).length ((upTo W R i).flatMap scell))) (fun _ v _ => m - (intOf v).toNat)
  case atStart => exact ⟨0, Nat.zero_le _, rfl, hid (by rw [show upTo W R 0 = [] from rfl]; exact Out.nil _ _ _)⟩
  case round =>
    obtain ⟨i, hi, rfl, HR⟩ := hrel
    obtain ⟨wa, hwa⟩ : ∃ wa, wa = wr := ⟨_, rfl⟩
    subst hwa
    have hi0 : (0 : Int) ≤ (i : Int) := by omega
    by_cases hltm : i < m
    · have hi1 : (i : Int) < (m : Int) := by omega
      have hlt : i < R.length := by rw [HRM.out]; exact hltm
      obtain ⟨bx, ox, hax, hcx⟩ := text_at (HS3.out.below HR.out.below) hlt
      cases hax
      have HST := hid (upTo_step (W := W) hlt)
      have hul := upTo_len HW.out.good R i
      generalize R[i] = c at hcx HST
      have HWA := hid (HW3.out.below HR.out.below)
      have hlk := world_look HWA.out.at_ c
      have hat := HWA.out.at_.at_ c
      have hf8 := HW.out.good.fields' c
      obtain ⟨k, hk⟩ : ∃ k, cAt W c = k := ⟨_, rfl⟩
      have HC : Hid (fieldsOf W c = k.fields.map fun f => (c, f)) := hid (by unfold fieldsOf; rw [hk])
      rw [hk] at hlk hat hf8
      have hkk := hk
      clear hk
      obtain ⟨nm, sup, vf, face, vd, vm, faces, fields, mets⟩ := k
      obtain ⟨a1, d1, a2, d2, a3, d3, e1, e2, e3⟩ := cls_vals hat
      simp only at e1 e2 e3 HC hf8
      subst e1 e2 e3
      simp only [CV.cells] at hlk
      have HFDW : Hid (Fds w (.slice a2 fields.length d2) fields) := hid (by have h := HW.out.at_.at_ c; rw [hkk] at h; exact h.fields)
      clear hkk
      obtain ⟨U, hU⟩ : ∃ U, upTo W R i = U := ⟨_, rfl⟩
      rw [hU] at HR HST hul
      have hul2 : U.length ≤ 104000008 := by omega
      obtain ⟨a5, c5, hv5⟩ := HR.out.sl.val
      subst hv5
      have hfl := fun u => run_fields (.string nm) (.string sup) (.slice a1 faces.length d1) (.bool face) (.slice a3 mets.length d3) a2 fields.length d2 u
      clear hat hU
      go_wp2
      clear hlk hcx hfl
      go_loopw [5, 27] (fun v5 v27 wx => ∃ j : Nat, j ≤ fields.length ∧ v27 = .int .i64 (j : Int) ∧ Hid (Out w3 wx 271 3 v5 (U.length + j) ((U ++ (fields.take j).map fun f => (c, f)).flatMap scell))) (fun _ v _ => fields.length - (intOf v).toNat)
      case atStart => exact ⟨0, Nat.zero_le _, rfl, hid (by simpa using HR.out)⟩
      case round =>
        obtain ⟨j, hj, rfl, HO⟩ := hrel
        have HFX : Hid (Fds wr (.slice a2 fields.length d2) fields) := hid (HFDW.out.below (HB3.out.trans (HO.out.below.mono HB3.out.size)))
        have hj0 : (0 : Int) ≤ (j : Int) := by omega
        by_cases hlt2 : j < fields.length
        · have hj1 : (j : Int) < (fields.length : Int) := by omega
          obtain ⟨by_, oy, hay, hc0, hc1⟩ := fd_at HFX.out hlt2
          cases hay
          have HTK : Hid ((fields.take (j + 1)).map (fun f => (c, f)) = (fields.take j).map (fun f => (c, f)) ++ [(c, fields[j])]) := hid (by rw [List.take_add_one, List.getElem?_eq_getElem hlt2, List.map_append]; rfl)
          generalize fields[j] = f at hc0 hc1 HTK
          obtain ⟨fn, ft⟩ := f
          simp only at hc0 hc1
          obtain ⟨a6, c6, rfl⟩ := HO.out.sl.val
          obtain ⟨W4, hW4⟩ : ∃ W4, wr.alloc (.cells #[.string fn, .string ft] 160) = W4 := ⟨_, rfl⟩
          have hr4 : W4.heap[wr.heap.size]? = some (.cells #[.string fn, .string ft] 160 (0, 0)) := hW4 ▸ heap_alloc_new _ _
          have q0 : W4.cell? ⟨wr.heap.size, 0, none⟩ = some (.string fn) := by rw [cell_of_row _ _ _ _ _ _ hr4]; rfl
          have q1 : W4.cell? ⟨wr.heap.size, 1, none⟩ = some (.string ft) := by rw [cell_of_row _ _ _ _ _ _ hr4]; rfl
          have HO4 : Hid (Out w3 W4 271 3 (.slice a6 (U.length + j) c6) (U.length + j) ((U ++ (fields.take j).map fun f => (c, f)).flatMap scell)) := hid (hW4 ▸ HO.out.alloc _)
          clear hr4
          go_wp2_with (at_builtin; refine wpList_append_lit_at w3 W4 _ rfl _ _ 268 rfl 271 (.agg #[.string { data := #[] }, .string { data := #[] }, .string { data := #[] }]) 3 48 1 Tryz.underlying268 infoL rfl (by decide) _ _ _ HO4.out rfl rfl rfl ?_ ?_ ?_ ?_)
          all_goals first | (intro v2 w2 ho2 hg2 hat2) | omega | (simp [Value.oneCell']; done) | skip
          have HO5 : Hid (Out w3 w2 271 3 v2 (U.length + (j + 1)) ((U ++ (fields.take (j + 1)).map fun f => (c, f)).flatMap scell)) := hid (by
            rw [HTK.out, ← List.append_assoc, List.flatMap_append, List.flatMap_append, List.append_assoc, List.map_take]
            exact ho2)
          clear ho2 hg2 hat2
          go_wp2_with fail
          go_roundw
          case rel => exact ⟨j + 1, by omega, by simp, HO5⟩
          case measure => simp [intOf]; omega
        · obtain rfl : j = fields.length := by omega
          have HN : Hid (Out w3 wr 271 3 u5 (upTo W R (i + 1)).length ((upTo W R (i + 1)).flatMap scell)) := hid (by
            have := HO.out
            rw [List.take_length, ← HC.out, ← HST.out] at this
            have e : (upTo W R (i + 1)).length = U.length + fields.length := by rw [HST.out, HC.out, List.length_append, List.length_map]
            rw [e]; exact this)
          go_wp2_with fail
          go_roundw
          case rel => exact ⟨i + 1, by omega, by simp, HN⟩
          case measure => simp [intOf]; omega
    · obtain rfl : i = m := by omega
      have HB := hid HR.out.below
      have HSL := hid HR.out.sl
      have HB0 := hid (HB3.out.trans (HB.out.mono HB3.out.size))
      obtain ⟨a5, c5, hv5⟩ := HR.out.sl.val
      subst hv5
      clear HR hltm
      go_wp2
      go_ret
      exact ⟨_, rfl, HSL.out, HB0.out⟩
end Go.Proofs.YtloeaihbnnnncaaGreatDoor.worlds

/- Where fields lie: lay.Types. Condition: the world was read. -/
set_option linter.unusedSimpArgs false
set_option linter.unusedVariables false
namespace Go.Proofs.YtloeaihbnnnncaaGreatDoor.worlds
open Go.RowKit Go.Proofs.YtloeaihbnnnncaaGreatDoor.lib Go.Proofs.YtloeaihbnnnncaaGreatDoor.maps Go.Proofs.YtloeaihbnnnncaaGreatDoor.classes Go.Proofs.YtloeaihbnnnncaaGreatDoor.errs

theorem lay_upTo (W : WL) (n : ByteArray) : layOf W n = (upTo W (lineOf W n).reverse (lineOf W n).length).map fun p => p.2.ty := by
  unfold layOf slotsOf upTo
  rw [List.take_of_length_le (by rw [List.length_reverse]; exact Nat.le_refl _), List.map_flatMap, List.map_flatMap]
  congr 1
  funext c
  unfold fieldsOf
  rw [List.map_map]
  rfl
theorem slot_at {w : World} {a : Option Addr} {n c : Nat} {l : List SF} (h : Sl w (.slice a n c) l.length 3 (l.flatMap scell)) {k : Nat} (hk : k < l.length) :
    ∃ b off, a = some ⟨b, off, none⟩ ∧ w.cell? ⟨b, off + k * 3, none⟩ = some (.string l[k].1) ∧ w.cell? ⟨b, off + k * 3 + 1, none⟩ = some (.string l[k].2.nm) ∧ w.cell? ⟨b, off + k * 3 + 2, none⟩ = some (.string l[k].2.ty) := by
  obtain ⟨b, off, ha, hc⟩ := row_at (cells := scell) (sz := 3) (fun _ => rfl) h hk (by decide)
  refine ⟨b, off, ha, ?_, ?_, ?_⟩
  · have := hc 0 (by decide); rw [Nat.add_zero] at this; exact this
  · have := hc 1 (by decide); rw [← Nat.add_assoc] at this; exact this
  · have := hc 2 (by decide); rw [← Nat.add_assoc] at this; exact this

set_option maxRecDepth 100000 in
set_option maxHeartbeats 8000000 in
theorem types_any (W : WL) (b : Nat) (n : ByteArray) (w : World) (hW : Wd w b W) :
    Calls Tryz.prog 169 #[.map (some b), .string n] w fun e w' => ∃ v, e = .returned v ∧ Sl w' v (layOf W n).length 1 ((layOf W n).map .string) ∧ Below w.heap.size w w' := by
  have HSLO := hid (slots_any W b n w hW)
  have HLAY := hid (lay_upTo W n)
  have hlen := upTo_len hW.good (lineOf W n).reverse (lineOf W n).length
  have hmost := Nat.le_trans (line_of hW.good.sound n).2 hW.most
  obtain ⟨S, hS⟩ : ∃ S, upTo W (lineOf W n).reverse (lineOf W n).length = S := ⟨_, rfl⟩
  rw [hS] at HSLO HLAY hlen
  obtain ⟨T, hT⟩ : ∃ T, layOf W n = T := ⟨_, rfl⟩
  rw [hT] at HLAY ⊢
  have hSl : S.length ≤ 104000008 := by omega
  clear hlen hmost hS hT hW
  go_enter Tryz.func169, Tryz.ntmps169
  go_wp2_with fail
  refine HSLO.out.mono ?_
  rintro e w1 ⟨v, rfl, hs1, hb1⟩
  have HS1 := hid hs1
  have HB1 := hid hb1
  obtain ⟨av, cv, hv⟩ := hs1.val
  subst hv
  clear hs1 hb1 HSLO
  go_wp2
  go_loopw [5, 12] (fun v5 v12 wr => ∃ k : Nat, k ≤ S.length ∧ v12 = .int .i64 (k : Int) ∧ Hid (Out w1 wr 9 1 v5 k ((S.take k).map fun p => .string p.2.ty))) (fun _ v _ => S.length - (intOf v).toNat)
  case atStart => exact ⟨0, Nat.zero_le _, rfl, hid (Out.nil _ _ _)⟩
  case round =>
    obtain ⟨k, hk, rfl, HO⟩ := hrel
    have hk0 : (0 : Int) ≤ (k : Int) := by omega
    obtain ⟨a5, c5, rfl⟩ := HO.out.sl.val
    by_cases hlt : k < S.length
    · have hk1 : (k : Int) < (S.length : Int) := by omega
      obtain ⟨bx, ox, hax, hd0, hd1, hd2⟩ := slot_at (HS1.out.below HO.out.below) hlt
      subst hax
      have HTK : Hid ((S.take (k + 1)).map (fun p => Value.string p.2.ty) = (S.take k).map (fun p => Value.string p.2.ty) ++ [Value.string S[k].2.ty]) := hid (by rw [List.take_add_one, List.getElem?_eq_getElem hlt, List.map_append]; rfl)
      generalize S[k] = p at hd0 hd1 hd2 HTK
      obtain ⟨pc, ⟨pn, pt⟩⟩ := p
      simp only at hd0 hd1 hd2 HTK
      obtain ⟨W4, hW4⟩ : ∃ W4, wr.alloc (.cells #[.string pc, .string pn, .string pt] 271) = W4 := ⟨_, rfl⟩
      have hr4 : W4.heap[wr.heap.size]? = some (.cells #[.string pc, .string pn, .string pt] 271 (0, 0)) := hW4 ▸ heap_alloc_new _ _
      have q2 : W4.cell? ⟨wr.heap.size, 2, none⟩ = some (.string pt) := by rw [cell_of_row _ _ _ _ _ _ hr4]; rfl
      have HO4 : Hid (Out w1 W4 9 1 (.slice a5 k c5) k ((S.take k).map fun p => .string p.2.ty)) := hid (hW4 ▸ HO.out.alloc _)
      clear hr4
      go_wp2_with (at_builtin; refine wpList_append_lit_at w1 W4 _ rfl _ _ 24 rfl 9 (.string { data := #[] }) 1 16 1 Tryz.underlying24 infoS rfl (by decide) _ _ _ HO4.out rfl rfl rfl ?_ ?_ ?_ ?_)
      all_goals first | (intro v2 w2 ho2 hg2 hat2) | omega | (simp [Value.oneCell']; done) | skip
      have HO5 : Hid (Out w1 w2 9 1 v2 (k + 1) ((S.take (k + 1)).map fun p => .string p.2.ty)) := hid (by
        rw [HTK.out]
        first | exact ho2 | (rw [List.map_take] at ho2 ⊢; exact ho2) | (rw [List.map_take]; exact ho2))
      clear ho2 hg2 hat2
      go_wp2_with fail
      go_roundw
      case rel => exact ⟨k + 1, by omega, by simp, HO5⟩
      case measure => simp [intOf]; omega
    · obtain rfl : k = S.length := by omega
      have HB := hid (HB1.out.trans (HO.out.below.mono HB1.out.size))
      have HSL : Hid (Sl wr (.slice a5 S.length c5) T.length 1 (T.map .string)) := hid (by
        have := HO.out.sl
        rw [List.take_length] at this
        rw [HLAY.out, List.length_map, List.map_map]
        exact this)
      clear HO hlt
      go_wp2
      go_ret
      exact ⟨_, rfl, HSL.out, HB.out⟩
end Go.Proofs.YtloeaihbnnnncaaGreatDoor.worlds
