/- The walk of SweepOwn: a swept heap and its roots share no memory with what was passed. Condition: the texts and lists are not great. -/
import Derived.Test.YtkfkdbmgmifopaaGreatDoorWldR
import Derived.Test.YtkfkdbmgmifopaaGreatDoorNamed
import Derived.Deep.WholeRow
import Derived.Laws.Cover3
set_option linter.unusedSimpArgs false
set_option linter.unusedVariables false
namespace Go.Proofs.YtkfkdbmgmifopaaGreatDoor.worlds
open Go.RowKit Go.Proofs.YtkfkdbmgmifopaaGreatDoor.lib Go.Proofs.YtkfkdbmgmifopaaGreatDoor.maps Go.Proofs.YtkfkdbmgmifopaaGreatDoor.classes Go.Proofs.YtkfkdbmgmifopaaGreatDoor.errs Go.Proofs.YtkfkdbmgmifopaaGreatDoor.descs Go.Proofs.YtkfkdbmgmifopaaGreatDoor.names Go.Proofs.YtkfkdbmgmifopaaGreatDoor.grow Go.Proofs.YtkfkdbmgmifopaaGreatDoor.ins

section
variable {P : Program}
/-- a struct's store into the midst of a row -/
theorem wpList_store_mid {ops : Array Oper} {rest : List Oper} {o : Oper} {a : Act} {w : World} {Q : Exit → Act → World → Prop} (hgd : o.guard = none) (ty : TypeId) (x y : Operand) (ho : o.op = .store ty x y)
    (g off : Nat) (cells : Array Value) (hx : a.eval x = .pointer (some ⟨g, off, none⟩)) (hy : a.eval y = .agg cells)
    (t : TypeId) (cur : Array Value) (hg : w.heap[g]? = some (.cells cur t (0, 0))) (hi : (P.info? ty).map (·.size) = some cells.size) (hl : off + cells.size ≤ cur.size) (h1 : ∀ v ∈ cells.toList, v.oneCell' = true)
    (h : ∀ new : Array Value, new.size = cur.size → wpList P ops Q rest (a.put o.dst undef) (w.setRow g new)) : wpList P ops Q (o :: rest) a w := by
  refine wpList_plain hgd fun K hK => ?_
  have hst := run_storeCells_at (P := P) g off t cells.toList 0 cur w hg (by simpa using hl) h1
  obtain ⟨new, hnew⟩ : ∃ new, (cur.toList.take (off + 0) ++ cells.toList ++ cur.toList.drop (off + 0 + cells.toList.length)).toArray = new := ⟨_, rfl⟩
  have hns : new.size = cur.size := by
    rw [← hnew]
    simp only [List.size_toArray, List.length_append, List.length_take, List.length_drop, Array.length_toList]
    omega
  rw [hnew] at hst
  have hsv : (storeVar ty ⟨g, off, none⟩ (.agg cells)).run P w = .ok () (w.setRow g new) := by
    cases hq : P.info? ty with
    | none => simp [hq] at hi
    | some i =>
      have hs : cells.size = i.size := by simp [hq] at hi; omega
      simp [storeVar, sizeOf, typeInfo, hq, Value.cells, hs, hst]
  unfold Oper.wp execOp
  simp only [ho, hx, hy, Instr.storeAt, Instr.sureAddr, Sem.run_bind, Sem.run_pure, Result.andThen_ok, hsv]
  exact hK _ _ (h new hns)
end
theorem grown_setRow (w : World) (g : Nat) (cs : Array Value) : w.grownBy (w.setRow g cs) (some g) :=
  ⟨rfl, rfl, rfl, by rw [size_setRow]; exact Nat.le_refl _, fun k _ hne => heap_setRow_other w g k cs (fun e => hne (by rw [e]))⟩
/-- an own slice's row, with room for an element -/
theorem own_slot {w0 w : World} {e : TypeId} {size : Nat} {v : Value} {n : Nat} {xs : List Value} (h : Out w0 w e size v n xs) {i : Nat} (hi : i < n) :
    ∃ g cap cur, v = .slice (some ⟨g, 0, none⟩) n cap ∧ w0.heap.size ≤ g ∧ w.heap[g]? = some (.cells cur e (0, 0)) ∧ i * size + size ≤ cur.size := by
  rcases h.own.2 with ⟨_, h0⟩ | ⟨g, cap, cur, hv, hb, hg, hn, hm, hs, ht⟩
  · omega
  · refine ⟨g, cap, cur, hv, hb, hg, ?_⟩
    rw [hs, ← Nat.succ_mul]
    exact Nat.mul_le_mul_right _ (by omega)
/-- an own slice behind a row written anew -/
theorem out_reset {w0 w : World} {e eg : TypeId} {size : Nat} {v : Value} {n g : Nat} {xs : List Value} {cur new : Array Value} (h : Out w0 w e size v n xs) (hg : w.heap[g]? = some (.cells cur eg (0, 0))) (hle : w0.heap.size ≤ g) (hs : new.size = cur.size) :
    ∃ xs', Out w0 (w.setRow g new) e size v n xs' := by
  have hbel := Go.Proofs.YtkfkdbmgmifopaaGreatDoor.lib.below_setRow h.below hle new
  rcases h.own.2 with ⟨rfl, rfl⟩ | ⟨g', cap, cur', rfl, hb, hg', hn, hm, hs', ht⟩
  · exact ⟨[], ⟨by simp, .inl ⟨rfl, rfl⟩⟩, hbel⟩
  · by_cases he : g' = g
    · subst he
      rw [hg'] at hg
      simp only [Option.some.injEq, Obj.cells.injEq] at hg
      obtain ⟨rfl, rfl, _⟩ := hg
      refine ⟨new.toList.take (n * size), ⟨?_, .inr ⟨g', cap, new, rfl, hb, setRow_heap _ _ _ _ _ _ hg', hn, hm, by rw [hs, hs'], rfl⟩⟩, hbel⟩
      rw [List.length_take, Array.length_toList, hs, hs']
      exact Nat.min_eq_left (Nat.mul_le_mul_right _ hn)
    · exact ⟨xs, h.own.kept (grown_setRow w g new) (.inr fun e => he (Option.some.inj e)), hbel⟩
theorem out_reset_other {w0 w : World} {e eg : TypeId} {size : Nat} {v : Value} {n g : Nat} {xs : List Value} {cur new : Array Value} (h : Out w0 w e size v n xs) (hg : w.heap[g]? = some (.cells cur eg (0, 0))) (hle : w0.heap.size ≤ g) (hne : e ≠ eg) : Out w0 (w.setRow g new) e size v n xs := by
  refine ⟨h.own.kept (grown_setRow w g new) ?_, Go.Proofs.YtkfkdbmgmifopaaGreatDoor.lib.below_setRow h.below hle new⟩
  rcases h.own.2 with ⟨rfl, _⟩ | ⟨g', cap, cur', rfl, _, hg', _⟩
  · exact .inl rfl
  · refine .inr fun he => ?_
    have := Option.some.inj he
    subst this
    rw [hg'] at hg
    simp only [Option.some.injEq, Obj.cells.injEq] at hg
    exact hne hg.2.1
theorem row_reset {w : World} {e eg : TypeId} {b g : Nat} {c cur new : Array Value} (h : w.heap[b]? = some (.cells c e (0, 0))) (hg : w.heap[g]? = some (.cells cur eg (0, 0))) (hne : e ≠ eg) : (w.setRow g new).heap[b]? = some (.cells c e (0, 0)) := by
  rw [heap_setRow_other w g b new fun he => ?_]
  · exact h
  · subst he
    rw [h] at hg
    simp only [Option.some.injEq, Obj.cells.injEq] at hg
    exact hne hg.2.1
theorem thcell_at {w : World} {a : Option Addr} {n c : Nat} {l : List Th} (h : Sl w (.slice a n c) l.length 2 (l.flatMap Th.cells)) {k : Nat} (hk : k < l.length) :
    ∃ b off, a = some ⟨b, off, none⟩ ∧ w.cell? ⟨b, off + k * 2, none⟩ = some (.string l[k].ty) ∧ w.cell? ⟨b, off + k * 2 + 1, none⟩ = some l[k].vh := by
  obtain ⟨b, off, ha, hc⟩ := row_at (cells := Th.cells) (sz := 2) (fun _ => rfl) h hk (by decide)
  refine ⟨b, off, ha, ?_, ?_⟩
  · have := hc 0 (by decide); rw [Nat.add_zero] at this; exact this
  · have := hc 1 (by decide); rw [← Nat.add_assoc] at this; exact this

/-- a swept heap in a variable, its values whatever, and the roots -/
structure OS (w5 w : World) (b : Nat) (v : Value) (L : List Th) (vr : Value) (m : Nat) : Prop where
  own : Out w5 w 35 2 v L.length (L.flatMap Th.cells)
  at_ : ∀ x ∈ L, ∃ xs, Out w5 w 37 2 x.vh x.has.length xs
  res : ∃ xs, Out w5 w 37 2 vr m xs
  row : w.heap[b]? = some (.cells #[v] 25 (0, 0))
theorem OS.put {w5 w : World} {b m g : Nat} {v vr : Value} {L : List Th} {cur new : Array Value} (h : OS w5 w b v L vr m) (hg : w.heap[g]? = some (.cells cur 37 (0, 0))) (hle : w5.heap.size ≤ g) (hs : new.size = cur.size) : OS w5 (w.setRow g new) b v L vr m :=
  ⟨out_reset_other h.own hg hle thing_value, fun x hx => by obtain ⟨xs, ho⟩ := h.at_ x hx; exact out_reset ho hg hle hs, by obtain ⟨xs, ho⟩ := h.res; exact out_reset ho hg hle hs, row_reset h.row hg (Ne.symm value_heap)⟩
theorem sweep_shape {w w' : World} {l : List CV} {H : List Th} {R : List Vl} {e : Ending} (hs : SmallH H) (h : SweepBy w l H R e w') : ∃ v vr z L m, e = .returned (.tuple #[.agg #[v], vr, errVal z]) ∧ OwnTh w w' v L ∧ (∃ xs, Out w w' 37 2 vr m xs) ∧ (z ≠ 0 → m = 0) ∧ m ≤ 50 ∧ L.length ≤ 50 ∧ SmallH L := by
  unfold SweepBy at h
  by_cases h0 : rootsF l H R = 0
  · rw [if_pos h0] at h
    obtain ⟨v, vr, L, bs, rfl, hd, ho, hL, hr⟩ := h
    have ht := (twice_of h0 hd hL hs).small
    obtain ⟨h1, _, _, h2⟩ := roots_ok h0
    refine ⟨v, vr, 0, L, R.length, rfl, ho, ⟨_, hr⟩, fun h => absurd rfl h, h2, ?_, ht⟩
    have := congrArg List.length hL
    rw [List.length_map] at this
    have h3 := swept_len bs H
    omega
  · rw [if_neg h0] at h
    obtain ⟨rfl, hb⟩ := h
    exact ⟨_, _, _, [], 0, rfl, (OwnTh.nil w).later hb, ⟨[], (Out.nil w _ _).later hb⟩, fun _ => rfl, by omega, by simp, fun x hx => absurd hx List.not_mem_nil⟩

set_option maxRecDepth 100000 in
set_option maxHeartbeats 16000000 in
theorem sweepown_any (va vt vr : Value) (l : List CV) (H : List Th) (R : List Vl) (w : World) (hl : Clss w va l) (hf : FormsAt w) (hsm : ∀ c ∈ l, SmallC c) (hn : l.length ≤ 1048576) (hH : Ths w vt H) (hs : SmallH H) (hm : H.length ≤ 1048576) (hR : Vls w vr R) (hr : R.length ≤ 1048576) :
    Calls Tryz.prog 3 #[va, .agg #[vt], vr] w fun e w' => e = .returned (.bool true) ∧ Below w.heap.size w w' := by
  obtain ⟨ah, ch, rfl⟩ := hH.sl.val
  obtain ⟨al, cl, rfl⟩ := hl.val
  obtain ⟨ar, cr, rfl⟩ := hR.val
  obtain ⟨b1, hb1⟩ : ∃ b1, w.heap.size = b1 := ⟨_, rfl⟩
  obtain ⟨w1, hw1⟩ : ∃ w1, w.alloc (.cells #[.slice ah H.length ch] 25) = w1 := ⟨_, rfl⟩
  have HB1 : Hid (Below w.heap.size w w1) := hid (hw1 ▸ ext_alloc _ _)
  have hr1 : w1.heap[b1]? = some (.cells #[.slice ah H.length ch] 25 (0, 0)) := by rw [← hw1, ← hb1]; exact heap_alloc_new _ _
  have hlt1 := (Array.getElem?_eq_some_iff.1 hr1).1
  have HX : Hid (∀ u, Below w1.heap.size w1 u → u.cell? ⟨b1, 0, none⟩ = some (.slice ah H.length ch)) := hid (fun u hu => by
    have h := (hu.block _ hlt1).trans hr1
    rw [cell_of_row _ _ _ _ _ _ h]; rfl)
  have HL := hid hl; have HF := hid hf; have HSM := hid hsm; have HN := hid hn; have HH := hid hH; have HS := hid hs; have HM := hid hm; have HR := hid hR; have HRN := hid hr
  clear hl hf hsm hn hH hs hm hR hr1 hr
  go_enter Tryz.func3, Tryz.ntmps3
  go_wp2_with fail
  refine (names.named_any w1).mono ?_
  rintro e w2 ⟨rfl, hb2⟩
  have H12 := hid hb2
  have HB2 := hid (HB1.out.trans (hb2.mono HB1.out.size))
  have x0 := HX.out _ hb2
  clear hb2
  go_wp2_with fail
  refine (things_any _ H w2 (HH.out.below HB2.out) HS.out HM.out).mono ?_
  rintro e w3 ⟨v0, L0, rfl, ho0, hL0⟩
  have HE0 := hid hL0
  have HS0 : Hid (SmallH L0) := hid (small_same hL0 HS.out)
  have HL0 : Hid (L0.length = H.length) := hid (by have := congrArg List.length hL0; rwa [List.length_map, List.length_map] at this)
  have HT0 := hid ho0.ths
  have H23 := hid ho0.own.below
  have H13 := hid (H12.out.trans (H23.out.mono H12.out.size))
  have HB3 := hid (HB2.out.trans (H23.out.mono HB2.out.size))
  obtain ⟨a0, c0, hv0⟩ := ho0.own.sl.val
  subst hv0
  clear ho0 hL0 x0
  obtain ⟨b8, hb8⟩ : ∃ b8, w3.heap.size = b8 := ⟨_, rfl⟩
  obtain ⟨W4, hW4⟩ : ∃ W4, w3.alloc (.cells #[.slice a0 L0.length c0] 25) = W4 := ⟨_, rfl⟩
  have H34 : Hid (Below w3.heap.size w3 W4) := hid (hW4 ▸ ext_alloc _ _)
  have HB4 := hid (HB3.out.trans (H34.out.mono HB3.out.size))
  have H14 := hid (H13.out.trans (H34.out.mono H13.out.size))
  have hr8 : W4.heap[b8]? = some (.cells #[.slice a0 L0.length c0] 25 (0, 0)) := by rw [← hW4, ← hb8]; exact heap_alloc_new _ _
  have hlt8 := (Array.getElem?_eq_some_iff.1 hr8).1
  have HX8 : Hid (∀ u, Below W4.heap.size W4 u → u.cell? ⟨b8, 0, none⟩ = some (.slice a0 L0.length c0)) := hid (fun u hu => by
    have h := (hu.block _ hlt8).trans hr8
    rw [cell_of_row _ _ _ _ _ _ h]; rfl)
  clear hr8
  go_wp2_with fail
  refine (values_any _ R W4 (HR.out.below HB4.out) (by have := HRN.out; omega)).mono ?_
  rintro e w5 ⟨v9, rfl, ho9⟩
  have HV9 := hid (show Vls w5 v9 R from ho9.sl)
  have H45 := hid ho9.below
  have HB5 := hid (HB4.out.trans (H45.out.mono HB4.out.size))
  have H15 := hid (H14.out.trans (H45.out.mono H14.out.size))
  have H35 := hid (H34.out.trans (H45.out.mono H34.out.size))
  obtain ⟨a9, c9, hv9⟩ := ho9.sl.val
  subst hv9
  clear ho9
  have x8 := HX8.out _ H45.out
  go_wp2_with fail
  refine (sweep_any _ _ _ l L0 R w5 (HL.out.below HB5.out) (HF.out.below HB5.out) HSM.out HN.out (HT0.out.below H35.out) HS0.out (by have := HL0.out; have := HM.out; omega) HV9.out).mono ?_
  intro e w6 h6
  obtain ⟨v, vr, z, L, m, rfl, ho6, hr6, hzm, hm50, hl50, hsl⟩ := sweep_shape HS0.out h6
  have HSL := hid hsl
  obtain ⟨b10, hb10⟩ : ∃ b10, w6.heap.size = b10 := ⟨_, rfl⟩
  obtain ⟨W7, hW7⟩ : ∃ W7, w6.alloc (.cells #[v] 25) = W7 := ⟨_, rfl⟩
  have HO : Hid (OS w5 W7 b10 v L vr m) := hid (by
    have hx : Below w6.heap.size w6 W7 := hW7 ▸ ext_alloc _ _
    obtain ⟨xs, hr⟩ := hr6
    exact ⟨ho6.own.later hx, fun x hx' => ⟨_, (ho6.at_ x hx').later hx⟩, ⟨_, hr.later hx⟩, by rw [← hW7, ← hb10]; exact heap_alloc_new _ _⟩)
  obtain ⟨av, cv, hv⟩ := ho6.own.sl.val
  subst hv
  obtain ⟨avr, cvr, hvr⟩ : ∃ a c, vr = .slice a m c := by obtain ⟨xs, hr⟩ := hr6; exact hr.sl.val
  subst hvr
  have HZM := hid hzm
  have hl51 : (L.length : Int) ≤ 50 := by omega
  have hm51 : (m : Int) ≤ 50 := by omega
  clear h6 ho6 hr6 hzm hsl x8
  go_wp2_with fail
  go_loopw [13] (fun i wr => ∃ k : Nat, k ≤ L.length ∧ i = .int .i64 (k : Int) ∧ Hid (OS w5 wr b10 (.slice av L.length cv) L (.slice avr m cvr) m)) (fun i _ => L.length - (intOf i).toNat)
  case atStart => exact ⟨0, Nat.zero_le _, rfl, HO⟩
  case round =>
    obtain ⟨k, hk, rfl, HOk⟩ := hrel
    clear HO
    obtain ⟨wb, hwb⟩ : ∃ wb, wb = wr := ⟨_, rfl⟩
    subst hwb
    have hk0 : (0 : Int) ≤ (k : Int) := by omega
    have x10 : wb.cell? ⟨b10, 0, none⟩ = some (.slice av L.length cv) := by rw [cell_of_row _ _ _ _ _ _ HOk.out.row]; rfl
    by_cases hlt : k < L.length
    · have hk1 : (k : Int) < (L.length : Int) := by omega
      go_wp2_with fail
      clear x10
      go_loopw [14] (fun i wr => ∃ j : Nat, j ≤ L[k].has.length ∧ i = .int .i64 (j : Int) ∧ Hid (OS w5 wr b10 (.slice av L.length cv) L (.slice avr m cvr) m)) (fun i _ => L[k].has.length - (intOf i).toNat)
      case atStart => exact ⟨0, Nat.zero_le _, rfl, HOk⟩
      case round =>
        obtain ⟨j, hj, rfl, HOj⟩ := hrel
        clear HOk
        obtain ⟨wc, hwc⟩ : ∃ wc, wc = wr := ⟨_, rfl⟩
        subst hwc
        have x10 : wc.cell? ⟨b10, 0, none⟩ = some (.slice av L.length cv) := by rw [cell_of_row _ _ _ _ _ _ HOj.out.row]; rfl
        obtain ⟨ht, ho, hat, _, he1⟩ := thcell_at HOj.out.own.sl hlt
        have HAT := hid hat
        have hj0 : (0 : Int) ≤ (j : Int) := by omega
        have HXS := HOj.out.at_ _ (List.getElem_mem hlt)
        have hsx := (HSL.out _ (List.getElem_mem hlt)).2
        generalize L[k] = x at he1 HXS hj hsx
        obtain ⟨ty, vh, has⟩ := x
        simp only at he1 HXS hj hsx
        obtain ⟨xs, hox⟩ := HXS
        obtain ⟨ax, cx, hvh⟩ := hox.sl.val
        subst hvh
        subst hat
        by_cases hjl : j < has.length
        · have hj1 : (j : Int) < (has.length : Int) := by omega
          obtain ⟨g, cap, cur, hvg, hgl, hgr, hgs⟩ := own_slot hox hjl
          simp only [Value.slice.injEq] at hvg
          obtain ⟨rfl, _, rfl⟩ := hvg
          have HGR := hid hgr; have HGL := hid hgl; have HGS := hid hgs
          clear hgr hgl hgs hox
          go_wp2_with (refine wpList_store_mid rfl 37 (.tmp 59) (.tmp 58) rfl g (j * 2) #[.int .i64 9, .int .i64 0] (by first | rfl | (simp; done)) rfl 37 cur HGR.out (by kernel_rfl) HGS.out (by simp [Value.oneCell']) ?_)
          intro new hnew
          have HN := hid (HOj.out.put HGR.out HGL.out hnew)
          clear hnew
          go_wp2_with fail
          go_roundw
          case rel => exact ⟨j + 1, by omega, by simp, HN⟩
          case measure => simp [intOf]; omega
        · obtain rfl : j = has.length := by omega
          go_wp2_with fail
          go_roundw
          case rel => exact ⟨k + 1, by omega, by simp, HOj⟩
          case measure => simp [intOf]; omega
    · obtain rfl : k = L.length := by omega
      go_wp2_with fail
      clear x10 hlt
      go_loopw [15] (fun i wr => ∃ k : Nat, k ≤ m ∧ i = .int .i64 (k : Int) ∧ Hid (OS w5 wr b10 (.slice av L.length cv) L (.slice avr m cvr) m)) (fun i _ => m - (intOf i).toNat)
      case atStart => exact ⟨0, Nat.zero_le _, rfl, HOk⟩
      case round =>
        obtain ⟨k, hk, rfl, HOj⟩ := hrel
        clear HOk
        obtain ⟨wc, hwc⟩ : ∃ wc, wc = wr := ⟨_, rfl⟩
        subst hwc
        have hk0 : (0 : Int) ≤ (k : Int) := by omega
        by_cases hjl : k < m
        · have hj1 : (k : Int) < (m : Int) := by omega
          obtain ⟨xs, hox⟩ := HOj.out.res
          obtain ⟨g, cap, cur, hvg, hgl, hgr, hgs⟩ := own_slot hox hjl
          simp only [Value.slice.injEq] at hvg
          obtain ⟨rfl, _, rfl⟩ := hvg
          have HGR := hid hgr; have HGL := hid hgl; have HGS := hid hgs
          clear hgr hgl hgs hox
          go_wp2_with (refine wpList_store_mid rfl 37 (.tmp 69) (.tmp 68) rfl g (k * 2) #[.int .i64 9, .int .i64 0] (by first | rfl | (simp; done)) rfl 37 cur HGR.out (by kernel_rfl) HGS.out (by simp [Value.oneCell']) ?_)
          intro new hnew
          have HN := hid (HOj.out.put HGR.out HGL.out hnew)
          clear hnew
          go_wp2_with fail
          go_roundw
          case rel => exact ⟨k + 1, by omega, by simp, HN⟩
          case measure => simp [intOf]; omega
        · obtain rfl : k = m := by omega
          have H5c := hid HOj.out.own.below
          have HBc := hid (HB5.out.trans (H5c.out.mono HB5.out.size))
          have H1c := hid (H15.out.trans (H5c.out.mono H15.out.size))
          have H4c := hid (H45.out.trans (H5c.out.mono H45.out.size))
          have H3c := hid (H35.out.trans (H5c.out.mono H35.out.size))
          have x8 := HX8.out _ H4c.out
          have x1 := HX.out _ H1c.out
          clear hjl HOj
          go_wp2_with fail
          refine (sheap_same _ _ L0 H wc (HT0.out.below H3c.out) (HH.out.below HBc.out) HE0.out (fun x hx => by have := (HS0.out x hx).2; omega) (by have := HL0.out; have := HM.out; omega)).mono ?_
          rintro e w8 ⟨rfl, hb8'⟩
          have HB8 := hid (HBc.out.trans (hb8'.mono HBc.out.size))
          have H58 := hid (H5c.out.trans (hb8'.mono H5c.out.size))
          clear hb8' x8 x1
          go_wp2_with fail
          refine (svals_same _ _ R w8 (HV9.out.below H58.out) (HR.out.below HB8.out) (by have := HRN.out; omega)).mono ?_
          rintro e w9 ⟨rfl, hb9⟩
          have HB9 := hid (HB8.out.trans (hb9.mono HB8.out.size))
          clear hb9
          by_cases hz : z = 0
          · subst hz
            rw [show errVal 0 = .nilIface from rfl]
            go_wp2
            go_ret
            exact ⟨by first | rfl | simp, HB9.out⟩
          · have hk0' := HZM.out hz
            have HEV : Hid (errVal z = .iface 45 (.int .i64 z)) := hid (by unfold errVal; rw [if_neg hz])
            rw [HEV.out]
            subst hk0'
            go_wp2
            go_ret
            exact ⟨by first | rfl | simp, HB9.out⟩
end Go.Proofs.YtkfkdbmgmifopaaGreatDoor.worlds

/- Heaps with one more thing: slices.Clone of values, heap.Copy, heap.Zero, heap.Fresh, heap.More. Condition: the lists are not great. -/
set_option linter.unusedSimpArgs false
set_option linter.unusedVariables false
namespace Go.Proofs.YtkfkdbmgmifopaaGreatDoor.worlds
open Go.RowKit Go.Proofs.YtkfkdbmgmifopaaGreatDoor.lib Go.Proofs.YtkfkdbmgmifopaaGreatDoor.maps Go.Proofs.YtkfkdbmgmifopaaGreatDoor.classes Go.Proofs.YtkfkdbmgmifopaaGreatDoor.errs Go.Proofs.YtkfkdbmgmifopaaGreatDoor.descs Go.Proofs.YtkfkdbmgmifopaaGreatDoor.names Go.Proofs.YtkfkdbmgmifopaaGreatDoor.grow Go.Proofs.YtkfkdbmgmifopaaGreatDoor.ins

section
variable {P : Program}
/-- a struct's store into the midst of a row, as one step of a region that draws -/
theorem step_store_mid {ops : Array Oper} {o : Oper} {a : Act} {w : World} {K : Act → World → Prop} {Q : Exit → Act → World → Prop} {E : Prop} (hgd : o.guard = none) (ty : TypeId) (x y : Operand) (ho : o.op = .store ty x y)
    (g off : Nat) (cells : Array Value) (hx : a.eval x = .pointer (some ⟨g, off, none⟩)) (hy : a.eval y = .agg cells)
    (t : TypeId) (cur : Array Value) (hg : w.heap[g]? = some (.cells cur t (0, 0))) (hi : (P.info? ty).map (·.size) = some cells.size) (hl : off + cells.size ≤ cur.size) (h1 : ∀ v ∈ cells.toList, v.oneCell' = true)
    (h : ∀ new : Array Value, new.size = cur.size → K (a.put o.dst undef) (w.setRow g new)) : if Region.wanted o (yielded ops a.tmps) = true then Oper.wp P o a w K Q else E := by
  have hw : Region.wanted o (yielded ops a.tmps) = true := by simp [Region.wanted, hgd]
  rw [if_pos hw]
  have hst := run_storeCells_at (P := P) g off t cells.toList 0 cur w hg (by simpa using hl) h1
  obtain ⟨new, hnew⟩ : ∃ new, (cur.toList.take (off + 0) ++ cells.toList ++ cur.toList.drop (off + 0 + cells.toList.length)).toArray = new := ⟨_, rfl⟩
  have hns : new.size = cur.size := by
    rw [← hnew]
    simp only [List.size_toArray, List.length_append, List.length_take, List.length_drop, Array.length_toList]
    omega
  rw [hnew] at hst
  have hsv : (storeVar ty ⟨g, off, none⟩ (.agg cells)).run P w = .ok () (w.setRow g new) := by
    cases hq : P.info? ty with
    | none => simp [hq] at hi
    | some i =>
      have hs : cells.size = i.size := by simp [hq] at hi; omega
      simp [storeVar, sizeOf, typeInfo, hq, Value.cells, hs, hst]
  unfold Oper.wp execOp
  simp only [ho, hx, hy, Instr.storeAt, Instr.sureAddr, Sem.run_bind, Sem.run_pure, Result.andThen_ok, hsv]
  exact h new hns
end
theorem eql_nilV (w : World) (a : Option Addr) (l c : Nat) : (binOp .eql 26 (.slice a l c) (.slice none 0 0)).run Tryz.prog w = .ok (.bool a.isNone) w := by
  simp only [binOp]
  simp [run_equal_slice_nil w 26 _ a l c Tryz.underlying26, Result.andThen]

set_option maxRecDepth 100000 in
set_option maxHeartbeats 2000000 in
theorem clonev_any (va : Value) (l : List Vl) (w : World) (ha : Vls w va l) (hn : l.length ≤ 2000000) :
    Calls Tryz.prog 47 #[va] w fun e w' => ∃ v', e = .returned v' ∧ Out w w' 37 2 v' l.length (l.flatMap Vl.cells) := by
  have hnil := eql_nilV
  have HE := hid (vl_one (l := l))
  have HS := hid ha
  obtain ⟨a, c, rfl⟩ := ha.val
  cases a with
  | none =>
    have hl0 : l = [] := by
      rcases l with _ | ⟨x, r⟩
      · rfl
      · obtain ⟨_, _, h, _⟩ := vl_at ha (k := 0) (by simp); cases h
    subst hl0
    clear ha
    go_enter Tryz.func47, Tryz.ntmps47
    go_wp2
    go_ret
    exact ⟨_, rfl, Out.nil _ _ _⟩
  | some a =>
    have HM := hid (Out.made w 37 2)
    have HS2 := hid (HS.out.below (ext_alloc w (.cells #[] 37)))
    clear ha
    go_enter Tryz.func47, Tryz.ntmps47
    go_wp2_with (at_builtin; refine wpList_append_src w _ rfl _ _ 26 rfl 37 _ 2 16 l.length Tryz.underlying26 infoVl rfl (by decide) _ 0 [] HM.out rfl _ (l.flatMap Vl.cells) HS2.out rfl HE.out ?_ ?_ ?_)
    all_goals first | (intro v' w' ho hg) | omega | skip
    have HO := hid ho
    obtain ⟨a', c', rfl⟩ := ho.sl.val
    clear ho hg
    go_wp2
    go_ret
    exact ⟨_, rfl, by simpa using HO.out⟩

set_option maxRecDepth 100000 in
set_option maxHeartbeats 8000000 in
theorem copy_any (vt : Value) (H : List Th) (w : World) (hH : Ths w vt H) (hs : SmallH H) (hn : H.length ≤ 1048576) :
    Calls Tryz.prog 31 #[.agg #[vt]] w fun e w' => ∃ v L, e = .returned (.agg #[v]) ∧ OwnTh w w' v L ∧ L.map bare = H.map bare := by
  obtain ⟨ah, ch, rfl⟩ := hH.sl.val
  have HH := hid hH; have HS := hid hs; have HN := hid hn
  obtain ⟨b1, hb1⟩ : ∃ b1, w.heap.size = b1 := ⟨_, rfl⟩
  obtain ⟨w1, hw1⟩ : ∃ w1, w.alloc (.cells #[.slice ah H.length ch] 25) = w1 := ⟨_, rfl⟩
  have HB1 : Hid (Below w.heap.size w w1) := hid (hw1 ▸ ext_alloc _ _)
  have hr1 : w1.heap[b1]? = some (.cells #[.slice ah H.length ch] 25 (0, 0)) := by rw [← hw1, ← hb1]; exact heap_alloc_new _ _
  have hlt1 := (Array.getElem?_eq_some_iff.1 hr1).1
  have HX : Hid (∀ u, Below w1.heap.size w1 u → u.cell? ⟨b1, 0, none⟩ = some (.slice ah H.length ch)) := hid (fun u hu => by
    have h := (hu.block _ hlt1).trans hr1
    rw [cell_of_row _ _ _ _ _ _ h]; rfl)
  obtain ⟨b2, hb2⟩ : ∃ b2, w1.heap.size = b2 := ⟨_, rfl⟩
  obtain ⟨b3, hb3⟩ : ∃ b3, (w1.alloc (.cells #[.slice none 0 0] 25)).heap.size = b3 := ⟨_, rfl⟩
  obtain ⟨W3, hW3⟩ : ∃ W3, (w1.alloc (.cells #[.slice none 0 0] 25)).alloc (.cells #[.slice none 0 0] 25) = W3 := ⟨_, rfl⟩
  have HT0 : Hid (TW w1 W3 b2 b3 (.slice none 0 0) []) := hid (by
    have hb23 : b3 = b2 + 1 := by rw [← hb3, ← hb2, World.size_alloc]
    refine ⟨(OwnTh.nil w1).later ?_, ?_, ?_, by omega, by omega, by omega⟩
    · rw [← hW3]; exact (ext_alloc _ _).trans ((ext_alloc _ _).mono (ext_alloc _ _).size)
    · rw [← hW3, ← hb3]; exact heap_alloc_new _ _
    · rw [← hW3]
      refine ((ext_alloc (w1.alloc (.cells #[.slice none 0 0] 25)) _).block b2 (by rw [hb3]; omega)).trans ?_
      rw [← hb2]; exact heap_alloc_new _ _)
  have x0 := HX.out W3 HT0.out.own.own.below
  clear hH hs hr1
  go_enter Tryz.func31, Tryz.ntmps31
  go_wp2_with fail
  clear x0
  go_loopw [9] (fun i wr => ∃ (k : Nat) (v : Value) (L : List Th), k ≤ H.length ∧ i = .int .i64 (k : Int) ∧ Hid (TW w1 wr b2 b3 v L) ∧ Hid (L.map bare = (H.take k).map bare)) (fun i _ => H.length - (intOf i).toNat)
  case atStart => exact ⟨0, _, [], Nat.zero_le _, rfl, HT0, hid rfl⟩
  case round =>
    obtain ⟨k, v, L, hk, rfl, HT, HL⟩ := hrel
    obtain ⟨wb, hwb⟩ : ∃ wb, wb = wr := ⟨_, rfl⟩
    subst hwb
    clear HT0
    have hk0 : (0 : Int) ≤ (k : Int) := by omega
    obtain ⟨n, hnn⟩ : ∃ n, L.length = n := ⟨_, rfl⟩
    have HNN := hid hnn
    have HLK : Hid (n = k) := hid (by
      have := congrArg List.length HL.out
      rw [List.length_map, List.length_map, List.length_take] at this
      omega)
    have HNL : Hid (n ≤ 1048576) := hid (by have := HLK.out; have := HN.out; omega)
    obtain ⟨a3, c3, hv3⟩ := HT.out.own.own.sl.val
    rw [hnn] at hv3
    subst hv3
    clear hnn
    by_cases hlt : k < H.length
    · have hk1 : (k : Int) < (H.length : Int) := by omega
      obtain ⟨hb, ho, hab, he0, he1⟩ := th_at (HH.out.below (HB1.out.trans (HT.out.own.own.below.mono HB1.out.size))) hlt
      subst hab
      have HVX0 := hid (HH.out.at_ _ (List.getElem_mem hlt))
      have HSX := hid (HS.out _ (List.getElem_mem hlt)).2
      have HLS : Hid ((H.take (k + 1)).map bare = (H.take k).map bare ++ [bare H[k]]) := hid (by rw [List.take_succ_eq_append_getElem hlt, List.map_append]; rfl)
      generalize H[k] = x at he0 he1 HVX0 HSX HLS
      obtain ⟨ty, vh, has⟩ := x
      simp only at he0 he1 HSX
      obtain ⟨ax, cx, hvh⟩ := HVX0.out.val
      simp only at hvh
      subst hvh
      obtain ⟨bx, hbx⟩ : ∃ bx, wb.heap.size = bx := ⟨_, rfl⟩
      obtain ⟨W5, hW5⟩ : ∃ W5, wb.alloc (.cells #[.string ty, .slice ax has.length cx] 35) = W5 := ⟨_, rfl⟩
      have HBx : Hid (Below wb.heap.size wb W5) := hid (hW5 ▸ ext_alloc _ _)
      have HRX : Hid (W5.heap[bx]? = some (.cells #[.string ty, .slice ax has.length cx] 35 (0, 0))) := hid (by rw [← hW5, ← hbx]; exact heap_alloc_new _ _)
      have HT5 := hid (HT.out.later HBx.out)
      have HTD := hid (HT5.out.later (Below.refl _ _).drew)
      have HRXD : Hid (W5.drew.heap[bx]? = some (.cells #[.string ty, .slice ax has.length cx] 35 (0, 0))) := hid HRX.out
      obtain ⟨WD, hWD⟩ : ∃ WD, W5.drew = WD := ⟨_, rfl⟩
      rw [hWD] at HTD HRXD
      have HDA : Hid (∀ u, Below WD.heap.size WD u → u.cell? ⟨b3, 0, none⟩ = some (.slice a3 n c3) ∧ u.cell? ⟨bx, 0, none⟩ = some (.string ty) ∧ u.cell? ⟨bx, 1, none⟩ = some (.slice ax has.length cx)) := hid (fun u hu => by
        have h3 := (HTD.out.later hu).r3
        have hx := (hu.block _ (Array.getElem?_eq_some_iff.1 HRXD.out).1).trans HRXD.out
        refine ⟨by rw [cell_of_row _ _ _ _ _ _ h3]; rfl, row_cell2 hx⟩)
      have HD := hid (HDA.out WD (Below.refl _ _))
      have HVX2 : Hid (Vls w (.slice ax has.length cx) has) := hid HVX0.out
      have HVX := hid (HVX2.out.below (HB1.out.trans (HTD.out.own.own.below.mono HB1.out.size)))
      have HOB : Hid (∀ g, (Value.slice a3 n c3).ownBlock = some g → g < bx) := hid (fun g hg => by have := (HT.out.own.own.own.lt g hg).2; omega)
      clear HVX0
      go_wp2_with fail
      refine wp_region_s (fun u => u.cell? ⟨b3, 0, none⟩ = some (.slice a3 n c3) ∧ u.cell? ⟨bx, 0, none⟩ = some (.string ty) ∧ u.cell? ⟨bx, 1, none⟩ = some (.slice ax has.length cx)) 11 (by kernel_rfl) ?_
      show Go.Proofs.YtkfkdbmgmifopaaGreatDoor.grow.wpAnyS _ _ _ _ _ _ _ _ _ W5.drew
      rw [hWD]
      refine s_calc 0 _ _ rfl (by kernel_rfl) (by kernel_rfl) (by kernel_rfl) (by kernel_rfl) (by decide) rfl (fun c a' w' h => ⟨(putS_defers _ _ _).symm.trans h.1, h.2⟩) (fun _ => HD.out) (fun u => by go_simp; rfl) ?_
      simp only [List.getElem_toArray, List.getElem_cons_zero, List.getElem_cons_succ, Act.put, List.setIfInBounds_toArray, List.set_cons_zero, List.set_cons_succ]
      refine s_take 1 _ _ rfl (by kernel_rfl) (by kernel_rfl) (by kernel_rfl) (by kernel_rfl) (by kernel_rfl) (by decide) rfl (fun c a' w' h => ⟨(putS_defers _ _ _).symm.trans h.1, h.2⟩) (fun _ => HD.out) (fun u hu => by obtain ⟨r0, r1, r2⟩ := hu; go_simp; rfl) ?_
      simp only [List.getElem_toArray, List.getElem_cons_zero, List.getElem_cons_succ, Act.put, List.setIfInBounds_toArray, List.set_cons_zero, List.set_cons_succ]
      refine s_calc 2 _ _ rfl (by kernel_rfl) (by kernel_rfl) (by kernel_rfl) (by kernel_rfl) (by decide) rfl (fun c a' w' h => ⟨(putS_defers _ _ _).symm.trans h.1, h.2⟩) (fun _ => HD.out) (fun u => by go_simp; rfl) ?_
      simp only [List.getElem_toArray, List.getElem_cons_zero, List.getElem_cons_succ, Act.put, List.setIfInBounds_toArray, List.set_cons_zero, List.set_cons_succ]
      refine s_take 3 _ _ rfl (by kernel_rfl) (by kernel_rfl) (by kernel_rfl) (by kernel_rfl) (by kernel_rfl) (by decide) rfl (fun c a' w' h => ⟨(putS_defers _ _ _).symm.trans h.1, h.2⟩) (fun _ => HD.out) (fun u hu => by obtain ⟨r0, r1, r2⟩ := hu; go_simp; rfl) ?_
      simp only [List.getElem_toArray, List.getElem_cons_zero, List.getElem_cons_succ, Act.put, List.setIfInBounds_toArray, List.set_cons_zero, List.set_cons_succ]
      refine s_calc 4 _ _ rfl (by kernel_rfl) (by kernel_rfl) (by kernel_rfl) (by kernel_rfl) (by decide) rfl (fun c a' w' h => ⟨(putS_defers _ _ _).symm.trans h.1, h.2⟩) (fun _ => HD.out) (fun u => by go_simp; rfl) ?_
      simp only [List.getElem_toArray, List.getElem_cons_zero, List.getElem_cons_succ, Act.put, List.setIfInBounds_toArray, List.set_cons_zero, List.set_cons_succ]
      refine s_take 5 _ _ rfl (by kernel_rfl) (by kernel_rfl) (by kernel_rfl) (by kernel_rfl) (by kernel_rfl) (by decide) rfl (fun c a' w' h => ⟨(putS_defers _ _ _).symm.trans h.1, h.2⟩) (fun _ => HD.out) (fun u hu => by obtain ⟨r0, r1, r2⟩ := hu; go_simp; rfl) ?_
      simp only [List.getElem_toArray, List.getElem_cons_zero, List.getElem_cons_succ, Act.put, List.setIfInBounds_toArray, List.set_cons_zero, List.set_cons_succ]
      refine s_only 6 _ rfl (by kernel_rfl) ?_
      go_simp
      refine (clonev_any _ has _ HVX.out (by have := HSX.out; omega)).mono ?_
      rintro e w2' ⟨v2, rfl, ho2⟩
      have HB2' := hid ho2.below
      have HT2 := hid (HTD.out.later ho2.below)
      have HO2 := hid (Out.since HTD.out.own.own.below ho2)
      have HD2 : Hid (w2'.cell? ⟨b3, 0, none⟩ = some (.slice a3 n c3) ∧ w2'.cell? ⟨bx, 0, none⟩ = some (.string ty) ∧ w2'.cell? ⟨bx, 1, none⟩ = some (.slice ax has.length cx)) := hid (HDA.out w2' ho2.below)
      obtain ⟨av, cv, hv⟩ := ho2.sl.val
      subst hv
      clear ho2
      refine ⟨fun _ => HD2.out, ?_⟩
      try simp only [List.getElem_toArray, List.getElem_cons_zero, List.getElem_cons_succ, Act.put, List.setIfInBounds_toArray, List.set_cons_zero, List.set_cons_succ]
      refine s_calc 7 _ _ rfl (by kernel_rfl) (by kernel_rfl) (by kernel_rfl) (by kernel_rfl) (by decide) rfl (fun c a' w' h => ⟨(putS_defers _ _ _).symm.trans h.1, h.2⟩) (fun _ => HD2.out) (fun u => by go_simp; rfl) ?_
      simp only [List.getElem_toArray, List.getElem_cons_zero, List.getElem_cons_succ, Act.put, List.setIfInBounds_toArray, List.set_cons_zero, List.set_cons_succ]
      refine s_only 8 _ rfl (by kernel_rfl) ?_
      go_simp
      refine ⟨fun _ => HDA.out _ (HB2'.out.alloc HB2'.out.size _), ?_⟩
      try simp only [List.getElem_toArray, List.getElem_cons_zero, List.getElem_cons_succ, Act.put, List.setIfInBounds_toArray, List.set_cons_zero, List.set_cons_succ]
      refine s_only 9 _ rfl (by kernel_rfl) ?_
      have HTN : Hid (Out w1 w2' 35 2 (.slice a3 n c3) n (L.flatMap Th.cells)) := hid (by have := HT2.out.own.own; rwa [HNN.out] at this)
      have HRX2 : Hid (w2'.heap[bx]? = some (.cells #[.string ty, .slice ax has.length cx] 35 (0, 0))) := hid ((HB2'.out.block _ (Array.getElem?_eq_some_iff.1 HRXD.out).1).trans HRXD.out)
      refine step_append_out w1 w2' _ rfl _ _ 23 rfl 35 (.agg #[.string { data := #[] }, .slice none 0 0]) 2 40 1 Tryz.underlying23 infoTh rfl (by decide) _ _ _ HTN.out rfl rfl rfl ?_ (by have := HNL.out; omega) (by have := HNL.out; omega) ?_
      · simp [Value.oneCell']
      intro v4 w4 ho4 hg4
      obtain ⟨hc4, hf4, hT4⟩ := HT2.out.step (x := ⟨ty, .slice av has.length cv, has⟩) HO2.out (by have := ho4; rw [← HNN.out] at this; exact this) hg4
      have HT4 := hid hT4
      have HD4 := hid (by exact (⟨hc4, row_cell2 ((hg4.block bx (Array.getElem?_eq_some_iff.1 HRX2.out).1 (fun e => Nat.lt_irrefl _ (HOB.out bx e.symm))).trans HRX2.out)⟩ : w4.cell? ⟨b3, 0, none⟩ = some (.slice a3 n c3) ∧ w4.cell? ⟨bx, 0, none⟩ = some (.string ty) ∧ w4.cell? ⟨bx, 1, none⟩ = some (.slice ax has.length cx)))
      have HF4 := hid hf4
      obtain ⟨a4, c4, rfl⟩ := ho4.sl.val
      clear ho4 hg4 hT4
      refine ⟨fun _ => HD4.out, ?_⟩
      try simp only [List.getElem_toArray, List.getElem_cons_zero, List.getElem_cons_succ, Act.put, List.setIfInBounds_toArray, List.set_cons_zero, List.set_cons_succ]
      refine s_calc 10 _ _ rfl (by kernel_rfl) (by kernel_rfl) (by kernel_rfl) (by kernel_rfl) (by decide) rfl (fun c a' w' h => ⟨(putS_defers _ _ _).symm.trans h.1, h.2⟩) (fun _ => HD4.out) (fun u => by go_simp; rfl) ?_
      simp only [List.getElem_toArray, List.getElem_cons_zero, List.getElem_cons_succ, Act.put, List.setIfInBounds_toArray, List.set_cons_zero, List.set_cons_succ]
      refine s_only 11 _ rfl (by kernel_rfl) ?_
      go_simp
      refine ⟨fun h => absurd h (by decide), ?_⟩
      refine s_end (by kernel_rfl) ?_
      go_wp2_with fail
      go_roundw
      case rel => exact ⟨k + 1, _, _, by omega, by simp, HT4, hid (by rw [List.map_append, HL.out, HLS.out]; rfl)⟩
      case measure => simp [intOf]; omega
    · obtain rfl : k = H.length := by omega
      have HL2 : Hid (L.map bare = H.map bare) := hid (by rw [HL.out, List.take_length])
      have hq0 : wb.cell? ⟨b3, 0, none⟩ = some (.slice a3 n c3) := by rw [cell_of_row _ _ _ _ _ _ HT.out.r3]; rfl
      have hq2 : wb.cell? ⟨b2, 0, none⟩ = some (.slice none 0 0) := by rw [cell_of_row _ _ _ _ _ _ HT.out.r2]; rfl
      have hf2 : wb.frozen? ⟨b2, 0, none⟩ = false := frozen_of_row _ _ _ _ _ HT.out.r2
      have HO := hid (HT.out.own.put (x := .slice a3 n c3) HT.out.r2 HT.out.le2)
      have HR2 := hid (setCell_row (j := 0) (x := .slice a3 n c3) HT.out.r2)
      clear hlt
      go_wp2
      try simp only [Exit.inBlock, Exit.then]
      exact bodyPost_ret (results_cell_row rfl _ _ b2 _ _ _ _ rfl HR2.out Tryz.underlying25 rfl (by kernel_rfl)) rfl ⟨_, L, rfl, OwnTh.since HB1.out HO.out, HL2.out⟩

set_option maxRecDepth 100000 in
set_option maxHeartbeats 2000000 in
theorem zero_any (t : ByteArray) (w : World) : Calls Tryz.prog 46 #[.string t] w fun e w' => ∃ k : Int, e = .returned (.agg #[.int .i64 k, .int .i64 0]) ∧ Below w.heap.size w w' := by
  obtain ⟨b2, hb2⟩ : ∃ b2, w.heap.size = b2 := ⟨_, rfl⟩
  obtain ⟨W1, hW1⟩ : ∃ W1, w.alloc (.cells #[.int .i64 0, .int .i64 0] 37) = W1 := ⟨_, rfl⟩
  have HB1 : Hid (Below w.heap.size w W1) := hid (hW1 ▸ ext_alloc _ _)
  have hr1 : W1.heap[b2]? = some (.cells #[.int .i64 0, .int .i64 0] 37 (0, 0)) := by rw [← hW1, ← hb2]; exact heap_alloc_new _ _
  have HR1 := hid hr1
  have HBS : Hid (∀ cs, Below w.heap.size w (W1.setRow b2 cs)) := hid (fun cs => Go.Proofs.YtkfkdbmgmifopaaGreatDoor.lib.below_setRow HB1.out (by omega) cs)
  clear hr1
  by_cases h1 : t.toList = [73]
  · have g1 : (t.toList == [73]) = true := by rw [h1]; rfl
    go_enter Tryz.func46, Tryz.ntmps46
    go_wp2_with (refine wpList_store_row rfl 37 (.tmp 2) (.tmp 6) rfl b2 #[.int .i64 1, .int .i64 0] rfl rfl _ _ HR1.out (by kernel_rfl) rfl (by simp [Value.oneCell']) ?_)
    try simp only [Exit.inBlock, Exit.then]
    exact bodyPost_ret (results_cell_row rfl _ _ b2 _ _ _ _ rfl (setRow_heap _ _ _ _ _ _ HR1.out) Tryz.underlying37 rfl (by kernel_rfl)) rfl ⟨1, rfl, HBS.out _⟩
  · have g1 : (t.toList == [73]) = false := beq_eq_false_iff_ne.2 h1
    by_cases h2 : t.toList = [74]
    · have g2 : (t.toList == [74]) = true := by rw [h2]; rfl
      go_enter Tryz.func46, Tryz.ntmps46
      go_wp2_with (refine wpList_store_row rfl 37 (.tmp 2) (.tmp 9) rfl b2 #[.int .i64 2, .int .i64 0] rfl rfl _ _ HR1.out (by kernel_rfl) rfl (by simp [Value.oneCell']) ?_)
      try simp only [Exit.inBlock, Exit.then]
      exact bodyPost_ret (results_cell_row rfl _ _ b2 _ _ _ _ rfl (setRow_heap _ _ _ _ _ _ HR1.out) Tryz.underlying37 rfl (by kernel_rfl)) rfl ⟨2, rfl, HBS.out _⟩
    · have g2 : (t.toList == [74]) = false := beq_eq_false_iff_ne.2 h2
      go_enter Tryz.func46, Tryz.ntmps46
      go_wp2_with (refine wpList_store_row rfl 37 (.tmp 2) (.tmp 10) rfl b2 #[.int .i64 3, .int .i64 0] rfl rfl _ _ HR1.out (by kernel_rfl) rfl (by simp [Value.oneCell']) ?_)
      try simp only [Exit.inBlock, Exit.then]
      exact bodyPost_ret (results_cell_row rfl _ _ b2 _ _ _ _ rfl (setRow_heap _ _ _ _ _ _ HR1.out) Tryz.underlying37 rfl (by kernel_rfl)) rfl ⟨3, rfl, HBS.out _⟩

/-- things of the call's own, their values of its own too, whatever they are -/
structure OwnAny (w1 w : World) (v : Value) (L : List Th) : Prop where
  own : Out w1 w 35 2 v L.length (L.flatMap Th.cells)
  at_ : ∀ x ∈ L, ∃ xs, Out w1 w 37 2 x.vh x.has.length xs
theorem OwnTh.any {w1 w : World} {v : Value} {L : List Th} (h : OwnTh w1 w v L) : OwnAny w1 w v L := ⟨h.own, fun x hx => ⟨_, h.at_ x hx⟩⟩
theorem OwnAny.later {w1 w w' : World} {v : Value} {L : List Th} (h : OwnAny w1 w v L) (hb : Below w.heap.size w w') : OwnAny w1 w' v L :=
  ⟨h.own.later hb, fun x hx => by obtain ⟨xs, ho⟩ := h.at_ x hx; exact ⟨xs, ho.later hb⟩⟩
theorem OwnAny.nil (w : World) : OwnAny w w (.slice none 0 0) [] := (OwnTh.nil w).any
theorem OwnAny.since {w0 w1 w : World} {v : Value} {L : List Th} (hb : Below w0.heap.size w0 w1) (h : OwnAny w1 w v L) : OwnAny w0 w v L :=
  ⟨Out.since hb h.own, fun x hx => by obtain ⟨xs, ho⟩ := h.at_ x hx; exact ⟨xs, Out.since hb ho⟩⟩
theorem OwnAny.put {w1 w : World} {v : Value} {L : List Th} {b : Nat} {c : Array Value} {x : Value} (h : OwnAny w1 w v L) (hb : w.heap[b]? = some (.cells c 25 (0, 0))) (hle : w1.heap.size ≤ b) : OwnAny w1 (w.setCell ⟨b, 0, none⟩ x) v L :=
  ⟨out_put_other h.own hb thing_heap hle, fun y hy => by obtain ⟨xs, ho⟩ := h.at_ y hy; exact ⟨xs, out_put_other ho hb value_heap hle⟩⟩
theorem OwnAny.reset {w1 w : World} {v : Value} {L : List Th} {g : Nat} {cur new : Array Value} (h : OwnAny w1 w v L) (hg : w.heap[g]? = some (.cells cur 37 (0, 0))) (hle : w1.heap.size ≤ g) (hs : new.size = cur.size) : OwnAny w1 (w.setRow g new) v L :=
  ⟨out_reset_other h.own hg hle thing_value, fun x hx => by obtain ⟨xs, ho⟩ := h.at_ x hx; exact out_reset ho hg hle hs⟩
theorem OwnAny.snoc {w1 W w' : World} {v v' : Value} {L : List Th} {x : Th} (h : OwnAny w1 W v L) (hx : ∃ xs, Out w1 W 37 2 x.vh x.has.length xs)
    (ho : Out w1 w' 35 2 v' (L.length + 1) (L.flatMap Th.cells ++ [.string x.ty, x.vh])) (hg : W.grownBy w' v.ownBlock) : OwnAny w1 w' v' (L ++ [x]) := by
  refine ⟨?_, fun y hy => ?_⟩
  · rw [List.length_append, List.flatMap_append]
    exact ho
  · rcases List.mem_append.1 hy with hy | hy
    · obtain ⟨xs, hy'⟩ := h.at_ y hy
      exact ⟨xs, Out.beside h.own hy' (own_apart h.own hy' thing_value) hg⟩
    · obtain rfl := List.mem_singleton.1 hy
      obtain ⟨xs, hy'⟩ := hx
      exact ⟨xs, Out.beside h.own hy' (own_apart h.own hy' thing_value) hg⟩

/-- what heap.More stands on: the heap, the thing, the result's cell -/
structure MR (w1 w : World) (b4 b5 b6 : Nat) (vh : Value) (L : List Th) (ty : ByteArray) (vx : Value) (m : Nat) : Prop where
  own : OwnAny w1 w vh L
  x : ∃ xs, Out w1 w 37 2 vx m xs
  r4 : w.heap[b4]? = some (.cells #[vh] 25 (0, 0))
  r5 : w.heap[b5]? = some (.cells #[.string ty, vx] 35 (0, 0))
  r6 : w.heap[b6]? = some (.cells #[.slice none 0 0] 25 (0, 0))
  lt : ∀ g, vh.ownBlock = some g → g < b5
theorem MR.later {w1 w w' : World} {b4 b5 b6 m : Nat} {vh vx : Value} {L : List Th} {ty : ByteArray} (h : MR w1 w b4 b5 b6 vh L ty vx m) (hb : Below w.heap.size w w') : MR w1 w' b4 b5 b6 vh L ty vx m :=
  ⟨h.own.later hb, by obtain ⟨xs, ho⟩ := h.x; exact ⟨xs, ho.later hb⟩, (hb.block _ (Array.getElem?_eq_some_iff.1 h.r4).1).trans h.r4, (hb.block _ (Array.getElem?_eq_some_iff.1 h.r5).1).trans h.r5, (hb.block _ (Array.getElem?_eq_some_iff.1 h.r6).1).trans h.r6, h.lt⟩
theorem MR.put {w1 w : World} {b4 b5 b6 m g : Nat} {vh vx : Value} {L : List Th} {ty : ByteArray} {cur new : Array Value} (h : MR w1 w b4 b5 b6 vh L ty vx m) (hg : w.heap[g]? = some (.cells cur 37 (0, 0))) (hle : w1.heap.size ≤ g) (hs : new.size = cur.size) : MR w1 (w.setRow g new) b4 b5 b6 vh L ty vx m :=
  ⟨h.own.reset hg hle hs, by obtain ⟨xs, ho⟩ := h.x; exact out_reset ho hg hle hs, row_reset h.r4 hg (Ne.symm value_heap), row_reset h.r5 hg thing_value, row_reset h.r6 hg (Ne.symm value_heap), h.lt⟩
theorem MR.snoc {w1 w w' : World} {b4 b5 b6 m : Nat} {vh vx v4 : Value} {L : List Th} {ty : ByteArray} (h : MR w1 w b4 b5 b6 vh L ty vx m)
    (ho : Out w1 w' 35 2 v4 (L.length + 1) (L.flatMap Th.cells ++ [.string ty, vx])) (hg : w.grownBy w' vh.ownBlock) :
    OwnAny w1 w' v4 (L ++ [⟨ty, vx, List.replicate m ⟨0, 0⟩⟩]) ∧ w'.heap[b4]? = some (.cells #[vh] 25 (0, 0)) ∧ w'.heap[b5]? = some (.cells #[.string ty, vx] 35 (0, 0)) ∧ w'.heap[b6]? = some (.cells #[.slice none 0 0] 25 (0, 0)) := by
  refine ⟨h.own.snoc (x := ⟨ty, vx, List.replicate m ⟨0, 0⟩⟩) (by simpa using h.x) ho hg, row_grown h.own.own h.r4 thing_heap hg, ?_, row_grown h.own.own h.r6 thing_heap hg⟩
  rw [hg.block b5 (Array.getElem?_eq_some_iff.1 h.r5).1 fun e => Nat.lt_irrefl _ (h.lt b5 e.symm)]
  exact h.r5
/-- what heap.More, New and Array answer, as far as memory goes -/
def MoreBy (w1 : World) (e : Ending) (w' : World) : Prop := Below w1.heap.size w1 w' ∧ ∃ (v : Value) (k z : Int) (L : List Th), e = .returned (.tuple #[.agg #[v], .int .i64 k, errVal z]) ∧ OwnAny w1 w' v L ∧ (z ≠ 0 → L = []) ∧ L.length ≤ 1048577 ∧ ∀ x ∈ L, x.has.length ≤ 200000000
theorem moreBy_err {w1 w' : World} {z : Int} {v : Value} (hz : z ≠ 0) (hv : errVal z = v) (hb : Below w1.heap.size w1 w') : MoreBy w1 (.returned (.tuple #[.agg #[.slice none 0 0], .int .i64 0, v])) w' :=
  ⟨hb, _, 0, z, [], by rw [hv], (OwnAny.nil w1).later hb, fun _ => rfl, by simp, fun x hx => absurd hx List.not_mem_nil⟩

set_option maxRecDepth 100000 in
set_option maxHeartbeats 16000000 in
theorem more_any (W : WL) (b : Nat) (vh vx : Value) (L : List Th) (ty : ByteArray) (m : Nat) (w1 w : World) (hW : Wd w b W) (ho : OwnAny w1 w vh L) (hx : ∃ xs, Out w1 w 37 2 vx m xs) (hx0 : ∀ g cur, vx.ownBlock = some g → w.heap[g]? = some (.cells cur 37 (0, 0)) → ∀ u ∈ cur.toList, ∀ s, u ≠ .string s) (hty : isTy ty.data.toList = true) (hm : (typesT W ty.data.toList m).length ≤ m) (hm2 : m ≤ 200000000)
    (hT : ∀ u xs, Sl u vx m 2 xs → Wd u b W → Calls Tryz.prog 45 #[.map (some b), .agg #[.string ty, vx]] u fun e w' => ∃ v, e = .returned v ∧ Sl w' v (typesT W ty.data.toList m).length 1 ((typesT W ty.data.toList m).map .string) ∧ Below u.heap.size u w')
    (hl : L.length ≤ 1048576) (hhs : ∀ x ∈ L, x.has.length ≤ 200000000) :
    Calls Tryz.prog 30 #[.map (some b), .agg #[vh], .agg #[.string ty, vx]] w (MoreBy w1) := by
  obtain ⟨a3, c3, rfl⟩ := ho.own.sl.val
  obtain ⟨ax, cx, rfl⟩ : ∃ a c, vx = .slice a m c := by obtain ⟨xs, h⟩ := hx; exact h.sl.val
  have hle0 := ho.own.below.size
  obtain ⟨b4, hb4⟩ : ∃ b4, w.heap.size = b4 := ⟨_, rfl⟩
  obtain ⟨u1, hu1⟩ : ∃ u1, w.alloc (.cells #[.slice a3 L.length c3] 25) = u1 := ⟨_, rfl⟩
  obtain ⟨b5, hb5⟩ : ∃ b5, u1.heap.size = b5 := ⟨_, rfl⟩
  obtain ⟨u2, hu2⟩ : ∃ u2, u1.alloc (.cells #[.string ty, .slice ax m cx] 35) = u2 := ⟨_, rfl⟩
  obtain ⟨b6, hb6⟩ : ∃ b6, u2.heap.size = b6 := ⟨_, rfl⟩
  obtain ⟨u3, hu3⟩ : ∃ u3, u2.alloc (.cells #[.slice none 0 0] 25) = u3 := ⟨_, rfl⟩
  have e1 : Below w.heap.size w u1 := hu1 ▸ ext_alloc _ _
  have e2 : Below u1.heap.size u1 u2 := hu2 ▸ ext_alloc _ _
  have e3 : Below u2.heap.size u2 u3 := hu3 ▸ ext_alloc _ _
  have HB3 : Hid (Below w.heap.size w u3) := hid (e1.trans ((e2.trans (e3.mono e2.size)).mono e1.size))
  have z5 : b5 = b4 + 1 := by rw [← hb5, ← hu1, World.size_alloc, hb4]
  have z6 : b6 = b5 + 1 := by rw [← hb6, ← hu2, World.size_alloc, hb5]
  have HNE : Hid (w1.heap.size ≤ b4 ∧ b5 = b4 + 1 ∧ b6 = b5 + 1) := hid (by omega)
  have HMR0 : Hid (MR w1 u3 b4 b5 b6 (.slice a3 L.length c3) L ty (.slice ax m cx) m) := hid (by
    refine ⟨ho.later HB3.out, ?_, ?_, ?_, ?_, fun g hg => ?_⟩
    · obtain ⟨xs, h⟩ := hx; exact ⟨xs, h.later HB3.out⟩
    · refine (e3.block b4 (by omega)).trans ((e2.block b4 (by omega)).trans ?_)
      rw [← hu1, ← hb4]; exact heap_alloc_new _ _
    · refine (e3.block b5 (by omega)).trans ?_
      rw [← hu2, ← hb5]; exact heap_alloc_new _ _
    · rw [← hu3, ← hb6]; exact heap_alloc_new _ _
    · have := (ho.own.own.lt g hg).2; omega)
  have HW := hid (hW.below HB3.out); have HTY := hid hty; have HM := hid hm; have HM2 := hid hm2; have HTT := hid hT; have HHS := hid hhs
  have HX0 : Hid (∀ g cur, (Value.slice ax m cx).ownBlock = some g → u3.heap[g]? = some (.cells cur 37 (0, 0)) → ∀ u ∈ cur.toList, ∀ s, u ≠ .string s) := hid (fun g cur hg hr => by
    obtain ⟨xs, h⟩ := hx
    exact hx0 g cur hg (by rw [← HB3.out.block g (h.own.lt g hg).2]; exact hr))
  have HMTL : Hid ((typesT W ty.data.toList m).length ≤ m) := hid hm
  clear hW ho hx hx0 hty hm hT e1 e2 e3 z5 z6
  have x4 : u3.cell? ⟨b4, 0, none⟩ = some (.slice a3 L.length c3) := by rw [cell_of_row _ _ _ _ _ _ HMR0.out.r4]; rfl
  obtain ⟨x50, x51⟩ := row_cell2 HMR0.out.r5
  by_cases h50 : 50 ≤ L.length
  · have h51 : (50 : Int) ≤ (L.length : Int) := by omega
    have hq6 : u3.cell? ⟨b6, 0, none⟩ = some (.slice none 0 0) := by rw [cell_of_row _ _ _ _ _ _ HMR0.out.r6]; rfl
    have hf6 : u3.frozen? ⟨b6, 0, none⟩ = false := frozen_of_row _ _ _ _ _ HMR0.out.r6
    have HR6 := hid (setCell_row (j := 0) (x := .slice none 0 0) HMR0.out.r6)
    have HBE : Hid (Below w1.heap.size w1 (u3.setCell ⟨b6, 0, none⟩ (.slice none 0 0))) := hid (HMR0.out.own.own.below.setCell (by show w1.heap.size ≤ b6; have := HNE.out; omega) _)
    go_enter Tryz.func30, Tryz.ntmps30
    go_wp2
    try simp only [Exit.inBlock, Exit.then]
    refine bodyPost_ret (results_cell_three rfl _ _ b6 _ _ _ _ rfl HR6.out Tryz.underlying25 rfl (by kernel_rfl)) rfl ?_
    exact moreBy_err (z := 4) (by decide) rfl HBE.out
  have h51 : (L.length : Int) < 50 := by omega
  have HL50 : Hid (L.length < 50) := hid (by omega)
  clear h50
  go_enter Tryz.func30, Tryz.ntmps30
  go_wp2_with fail
  obtain ⟨xs0, hx3⟩ := HMR0.out.x
  have HX3 := hid hx3.sl
  clear hx3
  refine (HTT.out u3 xs0 HX3.out HW.out).mono ?_
  rintro e u4 ⟨v4, rfl, hs4, hb4'⟩
  obtain ⟨TL, hTL⟩ : ∃ TL, typesT W ty.data.toList m = TL := ⟨_, rfl⟩
  rw [hTL] at hs4 HMTL
  have HS4 := hid hs4
  have HMR4 := hid (HMR0.out.later hb4')
  obtain ⟨a4, c4, rfl⟩ := hs4.val
  have htl := HMTL.out
  have htl2 : TL.length ≤ 200000000 := by omega
  have HNB : Hid (∀ (j : Nat) (hjl : j < TL.length) (bt ot g : Nat), a4 = some ⟨bt, ot, none⟩ → ax = some ⟨g, 0, none⟩ → bt ≠ g) := hid (fun j hjl bt ot g ha hg e => by
    subst e
    obtain ⟨bt', ot', hat, hct⟩ := text_at HS4.out hjl
    rw [ha] at hat
    simp only [Option.some.injEq, Addr.mk.injEq, and_true] at hat
    obtain ⟨rfl, rfl⟩ := hat
    obtain ⟨xs, hox⟩ := HMR0.out.x
    have hjm : j < m := by have := HMTL.out; omega
    obtain ⟨g', cap, cur, hvg, _, hgr, _⟩ := own_slot hox hjm
    have hob : (Value.slice ax m cx).ownBlock = some g' := by rw [hvg]; rfl
    have hob2 : (Value.slice ax m cx).ownBlock = some bt := by rw [hg]; rfl
    have e3 : g' = bt := by rw [hob] at hob2; exact Option.some.inj hob2
    subst e3
    have hlt := (Array.getElem?_eq_some_iff.1 hgr).1
    rw [hb4'.cell (p := ⟨g', ot + j, none⟩) hlt, cell_of_row _ _ _ _ _ _ hgr] at hct
    exact HX0.out g' cur hob hgr _ (List.mem_of_getElem? (by rw [Array.getElem?_toList]; exact hct)) _ rfl)
  clear hs4 hb4' hTL x4 x50 x51 htl
  go_wp2_with fail
  go_loopw [21] (fun v wr => ∃ j : Nat, j ≤ TL.length ∧ v = .int .i64 (j : Int) ∧ Hid (Below u4.heap.size u4 u4) ∧ Hid (MR w1 wr b4 b5 b6 (.slice a3 L.length c3) L ty (.slice ax m cx) m) ∧ Hid (Sl wr (.slice a4 TL.length c4) TL.length 1 (TL.map .string))) (fun v _ => TL.length - (intOf v).toNat)
  case atStart => exact ⟨0, Nat.zero_le _, rfl, hid (Below.refl _ _), HMR4, HS4⟩
  case round =>
    obtain ⟨j, hj, rfl, _, HMRj, HSj⟩ := hrel
    clear HMR4 HMR0
    obtain ⟨wb, hwb⟩ : ∃ wb, wb = wr := ⟨_, rfl⟩
    subst hwb
    have hj0 : (0 : Int) ≤ (j : Int) := by omega
    by_cases hjl : j < TL.length
    · have hj1 : (j : Int) < (TL.length : Int) := by omega
      have hjm : j < m := by have := HMTL.out; omega
      have hj2 : (j : Int) < (m : Int) := by omega
      obtain ⟨bt, ot, hat, hct⟩ := text_at HSj.out hjl
      cases hat
      generalize TL[j] = t at hct
      obtain ⟨xs1, hox1⟩ := HMRj.out.x
      obtain ⟨g0, cap0, cur0, hv0, _, _, _⟩ := own_slot hox1 hjm
      simp only [Value.slice.injEq] at hv0
      have hax : ax = some ⟨g0, 0, none⟩ := hv0.1
      clear hv0 hox1
      subst hax
      have HMRD := hid (HMRj.out.later (Below.refl _ _).drew)
      obtain ⟨WD, hWD⟩ : ∃ WD, wb.drew = WD := ⟨_, rfl⟩
      rw [hWD] at HMRD
      have HD : Hid (WD.cell? ⟨b5, 1, none⟩ = some (.slice (some ⟨g0, 0, none⟩) m cx)) := hid (by rw [cell_of_row _ _ _ _ _ _ HMRD.out.r5]; rfl)
      have HSD : Hid (Sl WD (.slice (some ⟨bt, ot, none⟩) TL.length c4) TL.length 1 (TL.map .string)) := hid (hWD ▸ HSj.out.below (Below.refl _ _).drew)
      go_wp2_with fail
      refine wp_region_s (fun u => u.cell? ⟨b5, 1, none⟩ = some (.slice (some ⟨g0, 0, none⟩) m cx)) 6 (by kernel_rfl) ?_
      show Go.Proofs.YtkfkdbmgmifopaaGreatDoor.grow.wpAnyS _ _ _ _ _ _ _ _ _ wb.drew
      rw [hWD]
      refine s_calc 0 _ _ rfl (by kernel_rfl) (by kernel_rfl) (by kernel_rfl) (by kernel_rfl) (by decide) rfl (fun c a' w' h => ⟨(putS_defers _ _ _).symm.trans h.1, h.2⟩) (fun _ => HD.out) (fun u => by go_simp; rfl) ?_
      simp only [List.getElem_toArray, List.getElem_cons_zero, List.getElem_cons_succ, Act.put, List.setIfInBounds_toArray, List.set_cons_zero, List.set_cons_succ]
      refine s_take 1 _ _ rfl (by kernel_rfl) (by kernel_rfl) (by kernel_rfl) (by kernel_rfl) (by kernel_rfl) (by decide) rfl (fun c a' w' h => ⟨(putS_defers _ _ _).symm.trans h.1, h.2⟩) (fun _ => HD.out) (fun u hu => by go_simp; rfl) ?_
      simp only [List.getElem_toArray, List.getElem_cons_zero, List.getElem_cons_succ, Act.put, List.setIfInBounds_toArray, List.set_cons_zero, List.set_cons_succ]
      refine s_calc 2 _ _ rfl (by kernel_rfl) (by kernel_rfl) (by kernel_rfl) (by kernel_rfl) (by decide) rfl (fun c a' w' h => ⟨(putS_defers _ _ _).symm.trans h.1, h.2⟩) (fun _ => HD.out) (fun u => by go_simp; rfl) ?_
      simp only [List.getElem_toArray, List.getElem_cons_zero, List.getElem_cons_succ, Act.put, List.setIfInBounds_toArray, List.set_cons_zero, List.set_cons_succ]
      refine s_calc 3 _ _ rfl (by kernel_rfl) (by kernel_rfl) (by kernel_rfl) (by kernel_rfl) (by decide) rfl (fun c a' w' h => ⟨(putS_defers _ _ _).symm.trans h.1, h.2⟩) (fun _ => HD.out) (fun u => by go_simp; rfl) ?_
      simp only [List.getElem_toArray, List.getElem_cons_zero, List.getElem_cons_succ, Act.put, List.setIfInBounds_toArray, List.set_cons_zero, List.set_cons_succ]
      refine s_only 4 _ rfl (by kernel_rfl) ?_
      go_simp
      refine (zero_any t _).mono ?_
      rintro e w2' ⟨kz, rfl, hb2'⟩
      have HMR2 := hid (HMRD.out.later hb2')
      have HS2 := hid (HSD.out.below hb2')
      have HD2 : Hid (w2'.cell? ⟨b5, 1, none⟩ = some (.slice (some ⟨g0, 0, none⟩) m cx)) := hid (by rw [cell_of_row _ _ _ _ _ _ HMR2.out.r5]; rfl)
      clear hb2'
      refine ⟨fun _ => HD2.out, ?_⟩
      try simp only [List.getElem_toArray, List.getElem_cons_zero, List.getElem_cons_succ, Act.put, List.setIfInBounds_toArray, List.set_cons_zero, List.set_cons_succ]
      refine s_calc 5 _ _ rfl (by kernel_rfl) (by kernel_rfl) (by kernel_rfl) (by kernel_rfl) (by decide) rfl (fun c a' w' h => ⟨(putS_defers _ _ _).symm.trans h.1, h.2⟩) (fun _ => HD2.out) (fun u => by go_simp; rfl) ?_
      simp only [List.getElem_toArray, List.getElem_cons_zero, List.getElem_cons_succ, Act.put, List.setIfInBounds_toArray, List.set_cons_zero, List.set_cons_succ]
      refine s_only 6 _ rfl (by kernel_rfl) ?_
      obtain ⟨xs2, hox2⟩ := HMR2.out.x
      obtain ⟨g, cap, cur, hvg, hgl, hgr, hgs⟩ := own_slot hox2 hjm
      simp only [Value.slice.injEq, Option.some.injEq, Addr.mk.injEq, and_true, true_and] at hvg
      obtain ⟨hgg, hcc⟩ := hvg
      subst hgg hcc
      have HGR := hid hgr; have HGL := hid hgl; have HGS := hid hgs
      clear hgr hgl hgs hox2
      refine step_store_mid rfl 37 (.tmp 31) (.tmp 30) rfl g0 (j * 2) #[.int .i64 kz, .int .i64 0] (by first | rfl | (simp; done)) rfl 37 cur HGR.out (by kernel_rfl) HGS.out (by simp [Value.oneCell']) ?_
      intro new hnew
      have HN := hid (HMR2.out.put HGR.out HGL.out hnew)
      have hbg := HNB.out j hjl bt ot g0 rfl rfl
      have HSN := hid (HS2.out.grownBy (grown_setRow w2' g0 new) (fun q hq _ e => hbg (by
        have h1 := Option.some.inj e
        have h2 : bt = q := Option.some.inj hq
        rw [h2, h1])))
      clear hnew hbg
      refine ⟨fun h => absurd h (by decide), ?_⟩
      refine s_end (by kernel_rfl) ?_
      go_wp2_with fail
      go_roundw
      case rel => exact ⟨j + 1, by omega, by simp, hid (Below.refl _ _), HN, HSN⟩
      case measure => simp [intOf]; omega
    · obtain rfl : j = TL.length := by omega
      have HMRD := hid (HMRj.out.later (Below.refl _ _).drew)
      obtain ⟨WD, hWD⟩ : ∃ WD, wb.drew = WD := ⟨_, rfl⟩
      rw [hWD] at HMRD
      have HDA : Hid (∀ u, Below WD.heap.size WD u → u.cell? ⟨b4, 0, none⟩ = some (.slice a3 L.length c3) ∧ u.cell? ⟨b5, 0, none⟩ = some (.string ty) ∧ u.cell? ⟨b5, 1, none⟩ = some (.slice ax m cx)) := hid (fun u hu => by
        have h := HMRD.out.later hu
        exact ⟨by rw [cell_of_row _ _ _ _ _ _ h.r4]; rfl, row_cell2 h.r5⟩)
      have HD := hid (HDA.out WD (Below.refl _ _))
      clear hjl
      go_wp2_with fail
      refine wp_region_s (fun u => u.cell? ⟨b4, 0, none⟩ = some (.slice a3 L.length c3) ∧ u.cell? ⟨b5, 0, none⟩ = some (.string ty) ∧ u.cell? ⟨b5, 1, none⟩ = some (.slice ax m cx)) 11 (by kernel_rfl) ?_
      show Go.Proofs.YtkfkdbmgmifopaaGreatDoor.grow.wpAnyS _ _ _ _ _ _ _ _ _ wb.drew
      rw [hWD]
      refine s_calc 0 _ _ rfl (by kernel_rfl) (by kernel_rfl) (by kernel_rfl) (by kernel_rfl) (by decide) rfl (fun c a' w' h => ⟨(putS_defers _ _ _).symm.trans h.1, h.2⟩) (fun _ => HD.out) (fun u => by go_simp; rfl) ?_
      simp only [List.getElem_toArray, List.getElem_cons_zero, List.getElem_cons_succ, Act.put, List.setIfInBounds_toArray, List.set_cons_zero, List.set_cons_succ]
      refine s_take 1 _ _ rfl (by kernel_rfl) (by kernel_rfl) (by kernel_rfl) (by kernel_rfl) (by kernel_rfl) (by decide) rfl (fun c a' w' h => ⟨(putS_defers _ _ _).symm.trans h.1, h.2⟩) (fun _ => HD.out) (fun u hu => by obtain ⟨r0, r1, r2⟩ := hu; go_simp; rfl) ?_
      simp only [List.getElem_toArray, List.getElem_cons_zero, List.getElem_cons_succ, Act.put, List.setIfInBounds_toArray, List.set_cons_zero, List.set_cons_succ]
      refine s_take 2 _ _ rfl (by kernel_rfl) (by kernel_rfl) (by kernel_rfl) (by kernel_rfl) (by kernel_rfl) (by decide) rfl (fun c a' w' h => ⟨(putS_defers _ _ _).symm.trans h.1, h.2⟩) (fun _ => HD.out) (fun u hu => by obtain ⟨r0, r1, r2⟩ := hu; go_simp; rfl) ?_
      simp only [List.getElem_toArray, List.getElem_cons_zero, List.getElem_cons_succ, Act.put, List.setIfInBounds_toArray, List.set_cons_zero, List.set_cons_succ]
      refine s_calc 6 _ _ rfl (by kernel_rfl) (by kernel_rfl) (by kernel_rfl) (by kernel_rfl) (by decide) rfl (fun c a' w' h => ⟨(putS_defers _ _ _).symm.trans h.1, h.2⟩) (fun _ => HD.out) (fun u => by go_simp; rfl) ?_
      simp only [List.getElem_toArray, List.getElem_cons_zero, List.getElem_cons_succ, Act.put, List.setIfInBounds_toArray, List.set_cons_zero, List.set_cons_succ]
      refine s_take 7 _ _ rfl (by kernel_rfl) (by kernel_rfl) (by kernel_rfl) (by kernel_rfl) (by kernel_rfl) (by decide) rfl (fun c a' w' h => ⟨(putS_defers _ _ _).symm.trans h.1, h.2⟩) (fun _ => HD.out) (fun u hu => by obtain ⟨r0, r1, r2⟩ := hu; go_simp; rfl) ?_
      simp only [List.getElem_toArray, List.getElem_cons_zero, List.getElem_cons_succ, Act.put, List.setIfInBounds_toArray, List.set_cons_zero, List.set_cons_succ]
      refine s_calc 8 _ _ rfl (by kernel_rfl) (by kernel_rfl) (by kernel_rfl) (by kernel_rfl) (by decide) rfl (fun c a' w' h => ⟨(putS_defers _ _ _).symm.trans h.1, h.2⟩) (fun _ => HD.out) (fun u => by go_simp; rfl) ?_
      simp only [List.getElem_toArray, List.getElem_cons_zero, List.getElem_cons_succ, Act.put, List.setIfInBounds_toArray, List.set_cons_zero, List.set_cons_succ]
      refine s_calc 9 _ _ rfl (by kernel_rfl) (by kernel_rfl) (by kernel_rfl) (by kernel_rfl) (by decide) rfl (fun c a' w' h => ⟨(putS_defers _ _ _).symm.trans h.1, h.2⟩) (fun _ => HD.out) (fun u => by go_simp; rfl) ?_
      simp only [List.getElem_toArray, List.getElem_cons_zero, List.getElem_cons_succ, Act.put, List.setIfInBounds_toArray, List.set_cons_zero, List.set_cons_succ]
      refine s_only 3 _ rfl (by kernel_rfl) ?_
      go_simp
      refine ⟨fun _ => HDA.out _ (ext_alloc _ _), ?_⟩
      try simp only [List.getElem_toArray, List.getElem_cons_zero, List.getElem_cons_succ, Act.put, List.setIfInBounds_toArray, List.set_cons_zero, List.set_cons_succ]
      refine s_only 4 _ rfl (by kernel_rfl) ?_
      refine step_append_out w1 WD _ rfl _ _ 23 rfl 35 (.agg #[.string { data := #[] }, .slice none 0 0]) 2 40 1 Tryz.underlying23 infoTh rfl (by decide) _ _ _ HMRD.out.own.own rfl rfl rfl ?_ (by omega) (by omega) ?_
      · simp [Value.oneCell']
      intro v4 w4 ho4 hg4
      obtain ⟨hn4, h44, h54, h64⟩ := HMRD.out.snoc ho4 hg4
      have HN4 := hid hn4; have HR64 := hid h64
      have HD4 : Hid (w4.cell? ⟨b4, 0, none⟩ = some (.slice a3 L.length c3) ∧ w4.cell? ⟨b5, 0, none⟩ = some (.string ty) ∧ w4.cell? ⟨b5, 1, none⟩ = some (.slice ax m cx)) := hid ⟨by rw [cell_of_row _ _ _ _ _ _ h44]; rfl, row_cell2 h54⟩
      have hq6 : w4.cell? ⟨b6, 0, none⟩ = some (.slice none 0 0) := by rw [cell_of_row _ _ _ _ _ _ h64]; rfl
      have hf6 : w4.frozen? ⟨b6, 0, none⟩ = false := frozen_of_row _ _ _ _ _ h64
      have HD6 : Hid (∀ x, (w4.setCell ⟨b6, 0, none⟩ x).cell? ⟨b4, 0, none⟩ = some (.slice a3 L.length c3) ∧ (w4.setCell ⟨b6, 0, none⟩ x).cell? ⟨b5, 0, none⟩ = some (.string ty) ∧ (w4.setCell ⟨b6, 0, none⟩ x).cell? ⟨b5, 1, none⟩ = some (.slice ax m cx)) := hid (fun x => ⟨by rw [cell_of_row _ _ _ _ _ _ (show (w4.setCell ⟨b6, 0, none⟩ x).heap[b4]? = _ from (setCell_other (by have := HNE.out; omega)).trans h44)]; rfl, row_cell2 ((setCell_other (by have := HNE.out; omega)).trans h54)⟩)
      have HN6 : Hid (∀ x, OwnAny w1 (w4.setCell ⟨b6, 0, none⟩ x) v4 (L ++ [⟨ty, .slice ax m cx, List.replicate m ⟨0, 0⟩⟩])) := hid (fun x => hn4.put h64 (by have := HNE.out; omega))
      have HR6 := hid (fun x => setCell_row (j := 0) (x := x) h64)
      obtain ⟨a4, c4, rfl⟩ := ho4.sl.val
      clear ho4 hg4 hn4 h44 h54 h64
      refine ⟨fun _ => HD4.out, ?_⟩
      try simp only [List.getElem_toArray, List.getElem_cons_zero, List.getElem_cons_succ, Act.put, List.setIfInBounds_toArray, List.set_cons_zero, List.set_cons_succ]
      refine s_calc 5 _ _ rfl (by kernel_rfl) (by kernel_rfl) (by kernel_rfl) (by kernel_rfl) (by decide) rfl (fun c a' w' h => ⟨(putS_defers _ _ _).symm.trans h.1, h.2⟩) (fun _ => HD4.out) (fun u => by go_simp; rfl) ?_
      simp only [List.getElem_toArray, List.getElem_cons_zero, List.getElem_cons_succ, Act.put, List.setIfInBounds_toArray, List.set_cons_zero, List.set_cons_succ]
      refine s_only 10 _ rfl (by kernel_rfl) ?_
      go_simp
      refine ⟨fun _ => HD6.out _, ?_⟩
      try simp only [List.getElem_toArray, List.getElem_cons_zero, List.getElem_cons_succ, Act.put, List.setIfInBounds_toArray, List.set_cons_zero, List.set_cons_succ]
      refine s_only 11 _ rfl (by kernel_rfl) ?_
      go_simp
      refine ⟨fun h => absurd h (by decide), ?_⟩
      try simp only [List.getElem_toArray, List.getElem_cons_zero, List.getElem_cons_succ, Act.put, List.setIfInBounds_toArray, List.set_cons_zero, List.set_cons_succ]
      refine s_calc 12 _ _ rfl (by kernel_rfl) (by kernel_rfl) (by kernel_rfl) (by kernel_rfl) (by decide) rfl (fun c a' w' h => ⟨(putS_defers _ _ _).symm.trans h.1, h.2⟩) (fun h => absurd h (by decide)) (fun u => by go_simp; rfl) ?_
      simp only [List.getElem_toArray, List.getElem_cons_zero, List.getElem_cons_succ, Act.put, List.setIfInBounds_toArray, List.set_cons_zero, List.set_cons_succ]
      refine s_end (by kernel_rfl) ?_
      go_wp2
      try simp only [Exit.inBlock, Exit.then]
      refine bodyPost_ret (results_cell_three rfl _ _ b6 _ _ _ _ rfl (HR6.out _) Tryz.underlying25 rfl (by kernel_rfl)) rfl ?_
      have h := HN6.out (.slice a4 (L.length + 1) c4)
      refine ⟨h.own.below, _, _, 0, _, rfl, h, fun e => absurd rfl e, by rw [List.length_append, List.length_singleton]; omega, fun x hx => ?_⟩
      rcases List.mem_append.1 hx with hx | hx
      · exact hhs x hx
      · rw [List.mem_singleton.1 hx]
        simpa using hm2
end Go.Proofs.YtkfkdbmgmifopaaGreatDoor.worlds

/- Heaps with one more thing: heap.Fresh, heap.New, heap.Array. Condition: the lists are not great. -/
set_option linter.unusedSimpArgs false
set_option linter.unusedVariables false
namespace Go.Proofs.YtkfkdbmgmifopaaGreatDoor.worlds
open Go.RowKit Go.Proofs.YtkfkdbmgmifopaaGreatDoor.lib Go.Proofs.YtkfkdbmgmifopaaGreatDoor.maps Go.Proofs.YtkfkdbmgmifopaaGreatDoor.classes Go.Proofs.YtkfkdbmgmifopaaGreatDoor.errs Go.Proofs.YtkfkdbmgmifopaaGreatDoor.descs Go.Proofs.YtkfkdbmgmifopaaGreatDoor.names Go.Proofs.YtkfkdbmgmifopaaGreatDoor.grow Go.Proofs.YtkfkdbmgmifopaaGreatDoor.ins

theorem bs_list (l : List UInt8) : (bs l).data.toList = l := by unfold bs; simp
theorem classN_thing (c : ByteArray) : classN (thingB c) = c := by
  unfold classN classB thingB coreB
  have h1 : (76 :: (c.data.toList ++ [59])).dropWhile (· == (91 : UInt8)) = 76 :: (c.data.toList ++ [59]) := by rw [List.dropWhile_cons]; rfl
  have h2 : isWd (76 :: (c.data.toList ++ [59])) = false := by unfold isWd; simp
  rw [h1, h2, if_neg (by decide), List.drop_succ_cons, List.drop_zero, List.dropLast_concat]
  unfold bs
  simp
theorem thing_ty {c : ByteArray} (h : nameOk c.data.toList = true) : isTy (thingB c) = true := by
  have h1 := core_tail (p := []) (t := thingB c) (fun y hy => absurd hy List.not_mem_nil) (by simp) (.inr (.inr ⟨c.data.toList, rfl, h⟩)) []
  rw [List.append_nil, List.nil_append] at h1
  simp only [isTy, decide_eq_true_eq]
  rw [h1]
  refine ⟨by unfold thingB; simp, by simp⟩
theorem sup_in {W : WL} {n : ByteArray} (h0 : (cAt W n).sup ≠ noB) : (getK W n).isSome = true := by
  unfold cAt at h0
  cases hg : getK W n with
  | none => rw [hg] at h0; exact absurd rfl h0
  | some c => rfl
theorem up_less {W : WL} (hs : Sound W) {n : ByteArray} (h0 : (cAt W n).sup ≠ noB) : (everyU W (cAt W n).sup).length < (everyU W n).length :=
  every_less (hs n (sup_in h0)) (by unfold above aboveC; rw [if_neg h0]; exact List.mem_cons_self ..)
theorem key_name {W : WL} (h : GoodW W) {c : ByteArray} (hc : (getK W c).isSome = true) : nameOk c.data.toList = true := by
  obtain ⟨k, hk⟩ := Option.isSome_iff_exists.1 hc
  obtain ⟨h1, h2⟩ := h.cls c k hk
  rcases h2 with ⟨rfl, _⟩ | ⟨rfl, _⟩ | h2
  · decide +kernel
  · decide +kernel
  · rw [h1]
    unfold clsFault at h2
    by_cases a1 : headBad k = true
    · rw [if_pos a1] at h2; cases h2
    · cases hn : nameOk k.nm.data.toList with
      | true => rfl
      | false => exact absurd (by unfold headBad; rw [if_pos hn]) a1
theorem line_less {W : WL} (hs : Sound W) {n : ByteArray} {l : List ByteArray} (h : Line W n l) : ∀ x ∈ l, (everyU W x).length ≤ (everyU W n).length := by
  induction h with
  | stop _ => intro x hx; rw [List.mem_singleton.1 hx]; exact Nat.le_refl _
  | @up n l h0 _ ih =>
    intro x hx
    rcases List.mem_cons.1 hx with rfl | hx
    · exact Nat.le_refl _
    · exact Nat.le_trans (ih x hx) (Nat.le_of_lt (up_less hs h0))
theorem line_nodup {W : WL} (hs : Sound W) {n : ByteArray} {l : List ByteArray} (h : Line W n l) : l.Nodup := by
  induction h with
  | stop _ => simp
  | @up n l h0 hl ih =>
    refine List.nodup_cons.2 ⟨fun hm => ?_, ih⟩
    have h1 := line_less hs hl n hm
    have h2 := up_less hs h0
    omega
theorem line_keys {W : WL} {n : ByteArray} {l : List ByteArray} (h : Line W n l) : ∀ x ∈ l.dropLast, x ∈ W.map (·.1) := by
  induction h with
  | stop _ => intro x hx; simp at hx
  | @up n l h0 hl ih =>
    intro x hx
    have hne : l ≠ [] := fun e => by have := line_pos hl; rw [e] at this; simp at this
    rw [List.dropLast_cons_of_ne_nil hne] at hx
    rcases List.mem_cons.1 hx with rfl | hx
    · obtain ⟨k, hk⟩ := Option.isSome_iff_exists.1 (sup_in h0)
      exact List.mem_map.2 ⟨_, getK_mem hk, rfl⟩
    · exact ih x hx
theorem lay_len {w : World} {b : Nat} {W : WL} (h : Wd w b W) (c : ByteArray) : (layOf W c).length ≤ 104 := by
  rw [lay_upTo, List.length_map]
  have h1 := upTo_len h.good (lineOf W c).reverse (lineOf W c).length
  have h2 := (line_of h.good.sound c).1
  have h3 := nodup_le (List.Nodup.sublist (List.dropLast_sublist _) (line_nodup h.good.sound h2)) (line_keys h2)
  rw [List.length_dropLast, List.length_map] at h3
  have h4 := h.good.size
  omega

set_option maxRecDepth 100000 in
set_option maxHeartbeats 4000000 in
/-- heap.types of a thing of a class -/
theorem htypesC_any (W : WL) (b : Nat) (ty : ByteArray) (vh : Value) (w : World) (hW : Wd w b W) (hty : isTy ty.data.toList = true) (hv : ∃ a n c, vh = .slice a n c) (hh : ¬ ty.data.toList.head? = some 91) :
    Calls Tryz.prog 45 #[.map (some b), .agg #[.string ty, vh]] w fun e w' => ∃ v, e = .returned v ∧ Sl w' v (layOf W (classN ty.data.toList)).length 1 ((layOf W (classN ty.data.toList)).map .string) ∧ Below w.heap.size w w' := by
  obtain ⟨ah, n, ch, rfl⟩ := hv
  have HW := hid hW
  have HCP := hid (cutArr_any ty)
  obtain ⟨W1, hW1⟩ : ∃ W1, w.alloc (.cells #[.string ty, .slice ah n ch] 35) = W1 := ⟨_, rfl⟩
  have HB1 : Hid (Below w.heap.size w W1) := hid (hW1 ▸ ext_alloc _ _)
  have hr1 : W1.heap[w.heap.size]? = some (.cells #[.string ty, .slice ah n ch] 35 (0, 0)) := hW1 ▸ heap_alloc_new _ _
  have x0 : W1.cell? ⟨w.heap.size, 0, none⟩ = some (.string ty) := by rw [cell_of_row _ _ _ _ _ _ hr1]; rfl
  have HCP2 : Hid (∀ u, Calls Tryz.prog 73 #[.string ty, .string { data := #[91] }] u fun e w' => ∃ E, e = .returned (.tuple #[.string E, .bool false]) ∧ u = w') := hid (fun u => (HCP.out u).mono fun e w' h => ⟨_, h.1.trans (by rw [decide_eq_false hh]), h.2⟩)
  have HCL := hid (class_any ty W1 hty)
  have HTY := hid (types_any W b (classN ty.data.toList) W1 (HW.out.below HB1.out))
  clear HCP hW hty hr1 hh
  go_enter Tryz.func45, Tryz.ntmps45
  go_wp2_with fail
  refine (HCP2.out _).mono ?_
  rintro e w3 ⟨E, rfl, rfl⟩
  go_wp2_with fail
  refine HCL.out.mono ?_
  rintro e w4 ⟨rfl, rfl⟩
  go_wp2_with fail
  refine HTY.out.mono ?_
  rintro e w5 ⟨v, rfl, hs5, hb5⟩
  have HS5 := hid hs5
  have HB5 := hid (HB1.out.trans (hb5.mono HB1.out.size))
  obtain ⟨av, cv, hv⟩ := hs5.val
  subst hv
  clear hs5 hb5
  go_wp2
  go_ret
  exact ⟨_, rfl, HS5.out, HB5.out⟩

set_option maxRecDepth 100000 in
set_option maxHeartbeats 4000000 in
/-- heap.types of an array -/
theorem htypesA_any (b : Nat) (ty : ByteArray) (e0 : List UInt8) (ah : Option Addr) (q ch : Nat) (w : World) (hT : ty.data.toList = 91 :: e0) (hn : q ≤ 2000000) :
    Calls Tryz.prog 45 #[.map (some b), .agg #[.string ty, .slice ah q ch]] w fun e w' => ∃ v, e = .returned v ∧ Sl w' v (List.replicate q (bs e0)).length 1 ((List.replicate q (bs e0)).map .string) ∧ Below w.heap.size w w' := by
  have HCP := hid (cutArr_any ty)
  obtain ⟨W1, hW1⟩ : ∃ W1, w.alloc (.cells #[.string ty, .slice ah q ch] 35) = W1 := ⟨_, rfl⟩
  have HB1 : Hid (Below w.heap.size w W1) := hid (hW1 ▸ ext_alloc _ _)
  have hlt1 : w.heap.size < W1.heap.size := by rw [← hW1]; simp
  have hr1 : W1.heap[w.heap.size]? = some (.cells #[.string ty, .slice ah q ch] 35 (0, 0)) := hW1 ▸ heap_alloc_new _ _
  have x0 : W1.cell? ⟨w.heap.size, 0, none⟩ = some (.string ty) := by rw [cell_of_row _ _ _ _ _ _ hr1]; rfl
  have x1 : W1.cell? ⟨w.heap.size, 1, none⟩ = some (.slice ah q ch) := by rw [cell_of_row _ _ _ _ _ _ hr1]; rfl
  rw [hT] at HCP
  obtain ⟨E, hE⟩ : ∃ E, bs e0 = E := ⟨_, rfl⟩
  have HCP2 : Hid (∀ u, Calls Tryz.prog 73 #[.string ty, .string { data := #[91] }] u fun e w' => e = .returned (.tuple #[.string E, .bool true]) ∧ u = w') := hid (fun u => by rw [← hE]; exact HCP.out u)
  rw [hE]
  have HREP := hid (repeat_any W1.heap.size 1 q E (W1.alloc (.cells #[.string E] 9)) (by rw [World.cell?_alloc_at _ _ _ _ rfl]; rfl) hn)
  have HB2 : Hid (Below w.heap.size w (W1.alloc (.cells #[.string E] 9))) := hid (HB1.out.alloc HB1.out.size _)
  clear hT hE HCP hr1
  go_enter Tryz.func45, Tryz.ntmps45
  go_wp2_with fail
  refine (HCP2.out _).mono ?_
  rintro e w3 ⟨rfl, rfl⟩
  go_wp2_with fail
  refine HREP.out.mono ?_
  rintro e w4 ⟨v, rfl, hs4, hb4⟩
  have HS4 : Hid (Sl w4 v (List.replicate q E).length 1 ((List.replicate q E).map .string)) := hid (by rw [List.length_replicate, List.map_replicate]; exact hs4)
  have HB4 := hid (HB2.out.trans (hb4.mono HB2.out.size))
  obtain ⟨av, cv, hv⟩ := hs4.val
  subst hv
  clear hs4 hb4
  go_wp2
  go_ret
  exact ⟨_, rfl, HS4.out, HB4.out⟩

/-- 'make([]api.Value, n)' -/
theorem make_vals (n : Nat) (hn : n ≤ 8388608) : ∃ M : Array Value, M.size = n * 2 ∧ (∀ u : World, (Instr.makeSlice 26 (.int .i64 (n : Int)) (.int .i64 (n : Int))).run Tryz.prog u = .ok (.slice (some ⟨u.heap.size, 0, none⟩) n n) (u.alloc (.cells M 37))) ∧ (∀ u ∈ M.toList, ∀ s, u ≠ .string s) ∧
    ∀ u : World, Out u (u.alloc (.cells M 37)) 37 2 (.slice (some ⟨u.heap.size, 0, none⟩) n n) n M.toList := by
  obtain ⟨M, hM⟩ : ∃ M, madeCells #[.int .i64 0, .int .i64 0] (n * 2) = M := ⟨_, rfl⟩
  obtain ⟨si, hsi, hz, hsz, hby⟩ := info_parts infoVl
  have hMs : M.size = n * 2 := by rw [← hM]; simp [madeCells]
  refine ⟨M, hMs, fun u => ?_, fun u hu s => ?_, fun u => ⟨⟨by rw [Array.length_toList, hMs], .inr ⟨u.heap.size, n, M, rfl, Nat.le_refl _, heap_alloc_new u _, Nat.le_refl _, by unfold maxLen; omega, hMs, ?_⟩⟩, ext_alloc _ _⟩⟩
  · have := run_makeSlice (P := Tryz.prog) u 26 37 si _ Tryz.underlying26 hsi hz .i64 .i64 (n : Int) (n : Int) (by omega) (by omega) (by rw [hsz]; simp; omega) (by rw [hby]; omega) (by omega)
    rw [hsz] at this
    simp only [Int.toNat_natCast] at this
    rw [show madeCells (Value.agg #[.int .i64 0, .int .i64 0]).cells (n * 2) = M from hM] at this
    exact this
  · rw [← hM] at hu
    unfold madeCells at hu
    obtain ⟨i, hi, rfl⟩ := List.getElem_of_mem hu
    simp only [Array.getElem_toList, Array.getElem_ofFn]
    rcases Nat.mod_two_eq_zero_or_one i with h | h <;> simp [h]
  · rw [← hMs, ← Array.length_toList, List.take_length]

set_option maxRecDepth 100000 in
set_option maxHeartbeats 4000000 in
theorem fresh_any (W : WL) (b : Nat) (c : ByteArray) (w : World) (hW : Wd w b W) (hc : c.size ≤ 10000000) :
    Calls Tryz.prog 32 #[.map (some b), .string c] w fun e w' => ∃ vx xs, e = .returned (.agg #[.string (bs (thingB c)), vx]) ∧ Out w w' 37 2 vx (layOf W c).length xs ∧ (∀ g cur, vx.ownBlock = some g → w'.heap[g]? = some (.cells cur 37 (0, 0)) → ∀ u ∈ cur.toList, ∀ s, u ≠ .string s) := by
  obtain ⟨b4, hb4⟩ : ∃ b4, w.heap.size = b4 := ⟨_, rfl⟩
  obtain ⟨W1, hW1⟩ : ∃ W1, w.alloc (.cells #[.string { data := #[] }, .slice none 0 0] 35) = W1 := ⟨_, rfl⟩
  have HB1 : Hid (Below w.heap.size w W1) := hid (hW1 ▸ ext_alloc _ _)
  have HR1 : Hid (W1.heap[b4]? = some (.cells #[.string { data := #[] }, .slice none 0 0] 35 (0, 0))) := hid (by rw [← hW1, ← hb4]; exact heap_alloc_new _ _)
  have HTH := hid (thing_any c W1 hc)
  have HTY := hid (types_any W b c W1 (hW.below HB1.out))
  have hll := lay_len hW c
  have hll2 : (layOf W c).length ≤ 8388608 := by omega
  obtain ⟨S, hS⟩ : ∃ S, bs (thingB c) = S := ⟨_, rfl⟩
  rw [hS] at HTH ⊢
  clear hW hS
  go_enter Tryz.func32, Tryz.ntmps32
  go_wp2_with fail
  refine HTH.out.mono ?_
  rintro e w2 ⟨rfl, rfl⟩
  go_wp2_with fail
  refine HTY.out.mono ?_
  rintro e w3 ⟨v, rfl, hs3, hb3⟩
  obtain ⟨n, hnn⟩ : ∃ n, (layOf W c).length = n := ⟨_, rfl⟩
  rw [hnn] at hs3 hll hll2
  have HNN := hid hnn
  obtain ⟨av, cv, hv⟩ := hs3.val
  subst hv
  have HR3 : Hid (w3.heap[b4]? = some (.cells #[.string { data := #[] }, .slice none 0 0] 35 (0, 0))) := hid ((hb3.block _ (Array.getElem?_eq_some_iff.1 HR1.out).1).trans HR1.out)
  have HB3 := hid (HB1.out.trans (hb3.mono HB1.out.size))
  obtain ⟨M, hMs, hmk, hms, hout⟩ := make_vals n hll2
  have hmk3 := hmk w3
  have HO4 := hid (hout w3)
  obtain ⟨g, hg⟩ : ∃ g, w3.heap.size = g := ⟨_, rfl⟩
  obtain ⟨W4, hW4⟩ : ∃ W4, w3.alloc (.cells M 37) = W4 := ⟨_, rfl⟩
  rw [hg, hW4] at hmk3 HO4
  have HR4 : Hid (W4.heap[b4]? = some (.cells #[.string { data := #[] }, .slice none 0 0] 35 (0, 0))) := hid ((HO4.out.below.block _ (Array.getElem?_eq_some_iff.1 HR3.out).1).trans HR3.out)
  have HOF : Hid (∀ cs, Out w (W4.setRow b4 cs) 37 2 (.slice (some ⟨g, 0, none⟩) n n) n M.toList) := hid (fun cs => out_reset_other (Out.since HB3.out HO4.out) HR4.out (by omega) (Ne.symm thing_value))
  have HMS : Hid (∀ cs g' cur, (Value.slice (some ⟨g, 0, none⟩) n n).ownBlock = some g' → (W4.setRow b4 cs).heap[g']? = some (.cells cur 37 (0, 0)) → ∀ u ∈ cur.toList, ∀ s, u ≠ .string s) := hid (fun cs g' cur hg' hr => by
    have e1 : g = g' := Option.some.inj hg'
    subst e1
    have hb := (Array.getElem?_eq_some_iff.1 HR3.out).1
    rw [heap_setRow_other W4 b4 g cs (by omega), ← hW4, ← hg, heap_alloc_new] at hr
    simp only [Option.some.injEq, Obj.cells.injEq] at hr
    rw [← hr.1]
    exact hms)
  clear hmk hout hs3 hb3 hnn hMs hms
  go_wp2_with (refine wpList_store_row rfl 35 (.tmp 4) (.tmp 12) rfl b4 #[.string S, .slice (some ⟨g, 0, none⟩) n n] rfl rfl _ _ HR4.out (by kernel_rfl) rfl (by simp [Value.oneCell']) ?_)
  try simp only [Exit.inBlock, Exit.then]
  exact bodyPost_ret (results_cell_row rfl _ _ b4 _ _ _ _ rfl (setRow_heap _ _ _ _ _ _ HR4.out) Tryz.underlying35 rfl (by kernel_rfl)) rfl ⟨_, _, rfl, by rw [HNN.out]; exact HOF.out _, fun g' cur hg' hr => HMS.out _ g' cur hg' hr⟩

theorem types_thing (W : WL) (c : ByteArray) (m : Nat) : typesT W (bs (thingB c)).data.toList m = layOf W c := by
  rw [bs_list]
  show (if (76 : UInt8) = 91 then List.replicate m (bs (c.data.toList ++ [59])) else layOf W (classN (thingB c))) = _
  rw [if_neg (by decide), classN_thing]

set_option maxRecDepth 100000 in
set_option maxHeartbeats 16000000 in
theorem newthing_any (va vt : Value) (l : List CV) (H : List Th) (c : ByteArray) (w : World) (hl : Clss w va l) (hf : FormsAt w) (hsm : ∀ c ∈ l, SmallC c) (hn : l.length ≤ 1048576) (hH : Ths w vt H) (hs : SmallH H) (hm : H.length ≤ 1048576) (hc : c.size ≤ 1048576) :
    Calls Tryz.prog 14 #[va, .agg #[vt], .string c] w (MoreBy w) := by
  obtain ⟨ah, ch, rfl⟩ := hH.sl.val
  obtain ⟨al, cl, rfl⟩ := hl.val
  obtain ⟨b4, hb4⟩ : ∃ b4, w.heap.size = b4 := ⟨_, rfl⟩
  obtain ⟨u1, hu1⟩ : ∃ u1, w.alloc (.cells #[.slice ah H.length ch] 25) = u1 := ⟨_, rfl⟩
  obtain ⟨b6, hb6⟩ : ∃ b6, u1.heap.size = b6 := ⟨_, rfl⟩
  obtain ⟨u2, hu2⟩ : ∃ u2, u1.alloc (.cells #[.slice none 0 0] 25) = u2 := ⟨_, rfl⟩
  have e1 : Below w.heap.size w u1 := hu1 ▸ ext_alloc _ _
  have e2 : Below u1.heap.size u1 u2 := hu2 ▸ ext_alloc _ _
  have HB2 : Hid (Below w.heap.size w u2) := hid (e1.trans (e2.mono e1.size))
  have HLE : Hid (w.heap.size ≤ b6) := hid (by have := e1.size; omega)
  have r4 : u2.heap[b4]? = some (.cells #[.slice ah H.length ch] 25 (0, 0)) := (e2.block b4 (by rw [← hu1, World.size_alloc]; omega)).trans (by rw [← hu1, ← hb4]; exact heap_alloc_new _ _)
  have r6 : u2.heap[b6]? = some (.cells #[.slice none 0 0] 25 (0, 0)) := by rw [← hu2, ← hb6]; exact heap_alloc_new _ _
  have HX : Hid (∀ u, Below u2.heap.size u2 u → u.cell? ⟨b4, 0, none⟩ = some (.slice ah H.length ch)) := hid (fun u hu => by
    rw [cell_of_row _ _ _ _ _ _ ((hu.block _ (Array.getElem?_eq_some_iff.1 r4).1).trans r4)]; rfl)
  have HR6 : Hid (∀ u, Below u2.heap.size u2 u → u.heap[b6]? = some (.cells #[.slice none 0 0] 25 (0, 0))) := hid (fun u hu => (hu.block _ (Array.getElem?_eq_some_iff.1 r6).1).trans r6)
  have HE6 : Hid (∀ u, Below w.heap.size w u → Below w.heap.size w (u.setCell ⟨b6, 0, none⟩ (.slice none 0 0))) := hid (fun u hu => hu.setCell (by show w.heap.size ≤ b6; exact HLE.out) _)
  have x4 := HX.out _ (Below.refl _ _)
  have HRD := hid (hread_any _ _ l H u2 (hl.below HB2.out) (hf.below HB2.out) hsm hn (hH.below HB2.out) hs hm)
  have HH := hid hH; have HS := hid hs; have HM := hid hm; have HC := hid hc
  clear hl hf hsm hn hH hs hc r4 r6 e1 e2
  go_enter Tryz.func14, Tryz.ntmps14
  go_wp2_with fail
  refine HRD.out.mono ?_
  intro e u3 h3
  unfold HReadBy at h3
  obtain ⟨hb3, h3⟩ := h3
  have H23 := hid hb3
  have HB3 := hid (HB2.out.trans (hb3.mono HB2.out.size))
  have HEF : ∀ z : Int, z ≠ 0 → e = .returned (.tuple #[.map none, .iface 45 (.int .i64 z)]) → True := fun _ _ _ => trivial
  have x4 := HX.out _ hb3
  have hr6 := HR6.out _ hb3
  have hq6 : u3.cell? ⟨b6, 0, none⟩ = some (.slice none 0 0) := by rw [cell_of_row _ _ _ _ _ _ hr6]; rfl
  have hf6 : u3.frozen? ⟨b6, 0, none⟩ = false := frozen_of_row _ _ _ _ _ hr6
  have HRS := hid (setCell_row (j := 0) (x := .slice none 0 0) hr6)
  clear hb3 HEF hr6
  by_cases h0 : (readW l).1 = 0
  · rw [if_pos h0] at h3
    obtain ⟨b, rfl, hw3⟩ := h3
    generalize (readW l).2 = W at hw3
    have HW3 := hid hw3
    clear hw3
    by_cases hz : rightF W H = 0
    · rw [hz, show errVal 0 = .nilIface from rfl]
      obtain ⟨nm4, sup4, q1, m1, d1, fc4, q2, m2, d2, q3, m3, d3, _, _, hlk⟩ := look_ok HW3.out.at_ c
      obtain ⟨W5, hW5⟩ : ∃ W5, u3.alloc (.cells #[.string nm4, .string sup4, .slice q1 m1 d1, .bool fc4, .slice q2 m2 d2, .slice q3 m3 d3] 69) = W5 := ⟨_, rfl⟩
      have H3a : Hid (Below u3.heap.size u3 W5) := hid (hW5 ▸ ext_alloc _ _)
      have HB5 := hid (HB3.out.trans (H3a.out.mono HB3.out.size))
      have H25 := hid (H23.out.trans (H3a.out.mono H23.out.size))
      have H35 := H3a
      have x45 := HX.out _ H25.out
      have HR65 := hid (HR6.out _ H25.out)
      have hq65 : W5.cell? ⟨b6, 0, none⟩ = some (.slice none 0 0) := by rw [cell_of_row _ _ _ _ _ _ HR65.out]; rfl
      have hf65 : W5.frozen? ⟨b6, 0, none⟩ = false := frozen_of_row _ _ _ _ _ HR65.out
      have HRS5 := hid (setCell_row (j := 0) (x := .slice none 0 0) HR65.out)
      have hrc : W5.heap[u3.heap.size]? = some (.cells #[.string nm4, .string sup4, .slice q1 m1 d1, .bool fc4, .slice q2 m2 d2, .slice q3 m3 d3] 69 (0, 0)) := hW5 ▸ heap_alloc_new _ _
      have xfc : W5.cell? ⟨u3.heap.size, 3, none⟩ = some (.bool fc4) := by rw [cell_of_row _ _ _ _ _ _ hrc]; rfl
      clear hrc
      cases hin : (getK W c).isSome with
      | false =>
        rw [hin] at hlk
        clear hin hz h0 HRD
        have HBE := hid (HE6.out _ HB5.out)
        go_wp2
        try simp only [Exit.inBlock, Exit.then]
        refine bodyPost_ret (results_cell_three rfl _ _ b6 _ _ _ _ rfl HRS5.out Tryz.underlying25 rfl (by kernel_rfl)) rfl ?_
        exact moreBy_err (z := 3) (by decide) rfl HBE.out
      | true =>
        rw [hin] at hlk
        have HNM := hid (key_name HW3.out.good hin)
        clear hin hz h0 HRD
        cases fc4 with
        | true =>
          have HBE := hid (HE6.out _ HB5.out)
          go_wp2
          try simp only [Exit.inBlock, Exit.then]
          refine bodyPost_ret (results_cell_three rfl _ _ b6 _ _ _ _ rfl HRS5.out Tryz.underlying25 rfl (by kernel_rfl)) rfl ?_
          exact moreBy_err (z := 7) (by decide) rfl HBE.out
        | false =>
          have HSL := hid (small_same (G := H) (H := H) rfl HS.out)
          go_wp2_with fail
          refine (copy_any _ H W5 (HH.out.below HB5.out) HS.out HM.out).mono ?_
          rintro e u6 ⟨vc, L, rfl, hoc, hLc⟩
          have HOC := hid hoc
          have HLC := hid hLc
          have HB6 := hid (HB5.out.trans (hoc.own.below.mono HB5.out.size))
          have H36 := hid (H35.out.trans (hoc.own.below.mono H35.out.size))
          have H56 := hid hoc.own.below
          obtain ⟨ac, cc, hvc⟩ := hoc.own.sl.val
          subst hvc
          have HLL : Hid (L.length = H.length) := hid (by have := congrArg List.length hLc; rwa [List.length_map, List.length_map] at this)
          clear hoc hLc
          go_wp2_with fail
          refine (fresh_any W b c u6 (HW3.out.below H36.out) (by have := HC.out; omega)).mono ?_
          rintro e u7 ⟨vx, xs, rfl, hox, hxs⟩
          have HW7 := hid (HW3.out.below (H36.out.trans (hox.below.mono H36.out.size)))
          have HOX := hid (Out.since H56.out hox)
          have HXS := hid hxs
          have HOC7 := hid ((HOC.out.later hox.below).any)
          obtain ⟨ax, cx, hvx⟩ := hox.sl.val
          subst hvx
          clear hox hxs
          obtain ⟨S, hS⟩ : ∃ S, bs (thingB c) = S := ⟨_, rfl⟩
          have hSt : isTy S.data.toList = true := by rw [← hS, bs_list]; exact thing_ty HNM.out
          have hSh : ¬ S.data.toList.head? = some 91 := by rw [← hS, bs_list]; unfold thingB; simp
          have hST : typesT W S.data.toList (layOf W c).length = layOf W c := by rw [← hS]; exact types_thing W c _
          have hSC : layOf W (classN S.data.toList) = layOf W c := by rw [← hS, bs_list, classN_thing]
          have hln := lay_len HW7.out c
          obtain ⟨n, hnn⟩ : ∃ n, (layOf W c).length = n := ⟨_, rfl⟩
          have HMO := hid (more_any W b (.slice ac L.length cc) (.slice ax (layOf W c).length cx) L S (layOf W c).length W5 u7 HW7.out HOC7.out ⟨_, HOX.out⟩ HXS.out hSt (by rw [hST]; exact Nat.le_refl _) (by omega)
            (fun u xs' hsl hwd => by rw [hST, ← hSC]; exact htypesC_any W b S _ u hwd hSt ⟨_, _, _, rfl⟩ hSh) (by have := HLL.out; have := HM.out; omega) (fun x hx => by have := (small_same HLC.out HS.out x hx).2; omega))
          rw [hS]
          rw [hnn] at HMO ⊢
          clear hSt hSh hST hSC hln hnn hS
          go_wp2_with fail
          refine HMO.out.mono ?_
          rintro e u8 ⟨hb8, v, kk, z, L2, rfl, ho8, hz8, hl8, hh8⟩
          have HR68 : Hid (u8.heap[b6]? = some (.cells #[.slice none 0 0] 25 (0, 0))) := hid ((hb8.block _ (Array.getElem?_eq_some_iff.1 HR65.out).1).trans HR65.out)
          have hq8 : u8.cell? ⟨b6, 0, none⟩ = some (.slice none 0 0) := by rw [cell_of_row _ _ _ _ _ _ HR68.out]; rfl
          have hf8 : u8.frozen? ⟨b6, 0, none⟩ = false := frozen_of_row _ _ _ _ _ HR68.out
          obtain ⟨av, cv, hv⟩ := ho8.own.sl.val
          subst hv
          have HO8 := hid ((OwnAny.since HB5.out ho8).put (x := .slice av L2.length cv) HR68.out HLE.out)
          have HRS8 := hid (setCell_row (j := 0) (x := .slice av L2.length cv) HR68.out)
          have HZ8 := hid hz8; have HL8 := hid hl8; have HH8 := hid hh8
          obtain ⟨ez, hez⟩ : ∃ ez, errVal z = ez := ⟨_, rfl⟩
          have HEZ := hid hez
          rw [hez]
          clear ho8 hz8 hl8 hh8 hb8 hez
          go_wp2
          try simp only [Exit.inBlock, Exit.then]
          refine bodyPost_ret (results_cell_three rfl _ _ b6 _ _ _ _ rfl HRS8.out Tryz.underlying25 rfl (by kernel_rfl)) rfl ?_
          exact ⟨HO8.out.own.below, _, kk, z, L2, by rw [HEZ.out]; rfl, HO8.out, HZ8.out, HL8.out, HH8.out⟩
    · have HEV : Hid (errVal (rightF W H) = .iface 45 (.int .i64 (rightF W H))) := hid (by unfold errVal; rw [if_neg hz])
      have HZ := hid hz
      have HBE := hid (HE6.out _ HB3.out)
      rw [HEV.out]
      clear hz h0
      go_wp2
      try simp only [Exit.inBlock, Exit.then]
      refine bodyPost_ret (results_cell_three rfl _ _ b6 _ _ _ _ rfl HRS.out Tryz.underlying25 rfl (by kernel_rfl)) rfl ?_
      exact moreBy_err HZ.out HEV.out HBE.out
  · rw [if_neg h0] at h3
    subst h3
    have HEV : Hid (errVal (readW l).1 = .iface 45 (.int .i64 (readW l).1)) := hid (by unfold errVal; rw [if_neg h0])
    have HZ := hid h0
    have HBE := hid (HE6.out _ HB3.out)
    rw [HEV.out]
    clear h0
    go_wp2
    try simp only [Exit.inBlock, Exit.then]
    refine bodyPost_ret (results_cell_three rfl _ _ b6 _ _ _ _ rfl HRS.out Tryz.underlying25 rfl (by kernel_rfl)) rfl ?_
    exact moreBy_err HZ.out HEV.out HBE.out
end Go.Proofs.YtkfkdbmgmifopaaGreatDoor.worlds

/- Heaps with one more thing: heap.Array of ints. Condition: the lists are not great. -/
set_option linter.unusedSimpArgs false
set_option linter.unusedVariables false
namespace Go.Proofs.YtkfkdbmgmifopaaGreatDoor.worlds
open Go.RowKit Go.Proofs.YtkfkdbmgmifopaaGreatDoor.lib Go.Proofs.YtkfkdbmgmifopaaGreatDoor.maps Go.Proofs.YtkfkdbmgmifopaaGreatDoor.classes Go.Proofs.YtkfkdbmgmifopaaGreatDoor.errs Go.Proofs.YtkfkdbmgmifopaaGreatDoor.descs Go.Proofs.YtkfkdbmgmifopaaGreatDoor.names Go.Proofs.YtkfkdbmgmifopaaGreatDoor.grow Go.Proofs.YtkfkdbmgmifopaaGreatDoor.ins

set_option maxRecDepth 100000 in
set_option maxHeartbeats 16000000 in
theorem newarr_any (va vt : Value) (l : List CV) (H : List Th) (n : Int) (w : World) (hl : Clss w va l) (hf : FormsAt w) (hsm : ∀ c ∈ l, SmallC c) (hn : l.length ≤ 1048576) (hH : Ths w vt H) (hs : SmallH H) (hm : H.length ≤ 1048576) :
    Calls Tryz.prog 15 #[va, .agg #[vt], .string { data := #[73] }, .int .i64 n] w (MoreBy w) := by
  obtain ⟨ah, ch, rfl⟩ := hH.sl.val
  obtain ⟨al, cl, rfl⟩ := hl.val
  obtain ⟨b5, hb5⟩ : ∃ b5, w.heap.size = b5 := ⟨_, rfl⟩
  obtain ⟨u1, hu1⟩ : ∃ u1, w.alloc (.cells #[.slice ah H.length ch] 25) = u1 := ⟨_, rfl⟩
  obtain ⟨b8, hb8⟩ : ∃ b8, u1.heap.size = b8 := ⟨_, rfl⟩
  obtain ⟨u2, hu2⟩ : ∃ u2, u1.alloc (.cells #[.slice none 0 0] 25) = u2 := ⟨_, rfl⟩
  have e1 : Below w.heap.size w u1 := hu1 ▸ ext_alloc _ _
  have e2 : Below u1.heap.size u1 u2 := hu2 ▸ ext_alloc _ _
  have HB2 : Hid (Below w.heap.size w u2) := hid (e1.trans (e2.mono e1.size))
  have HLE : Hid (w.heap.size ≤ b8) := hid (by have := e1.size; omega)
  have r4 : u2.heap[b5]? = some (.cells #[.slice ah H.length ch] 25 (0, 0)) := (e2.block b5 (by rw [← hu1, World.size_alloc]; omega)).trans (by rw [← hu1, ← hb5]; exact heap_alloc_new _ _)
  have r6 : u2.heap[b8]? = some (.cells #[.slice none 0 0] 25 (0, 0)) := by rw [← hu2, ← hb8]; exact heap_alloc_new _ _
  have HX : Hid (∀ u, Below u2.heap.size u2 u → u.cell? ⟨b5, 0, none⟩ = some (.slice ah H.length ch)) := hid (fun u hu => by
    rw [cell_of_row _ _ _ _ _ _ ((hu.block _ (Array.getElem?_eq_some_iff.1 r4).1).trans r4)]; rfl)
  have HR6 : Hid (∀ u, Below u2.heap.size u2 u → u.heap[b8]? = some (.cells #[.slice none 0 0] 25 (0, 0))) := hid (fun u hu => (hu.block _ (Array.getElem?_eq_some_iff.1 r6).1).trans r6)
  have HE6 : Hid (∀ u, Below w.heap.size w u → Below w.heap.size w (u.setCell ⟨b8, 0, none⟩ (.slice none 0 0))) := hid (fun u hu => hu.setCell (by show w.heap.size ≤ b8; exact HLE.out) _)
  have x4 := HX.out _ (Below.refl _ _)
  have HRD := hid (hread_any _ _ l H u2 (hl.below HB2.out) (hf.below HB2.out) hsm hn (hH.below HB2.out) hs hm)
  have HH := hid hH; have HS := hid hs; have HM := hid hm
  clear hl hf hsm hn hH hs r4 r6 e1 e2
  go_enter Tryz.func15, Tryz.ntmps15
  go_wp2_with fail
  refine HRD.out.mono ?_
  intro e u3 h3
  unfold HReadBy at h3
  obtain ⟨hb3, h3⟩ := h3
  have H23 := hid hb3
  have HB3 := hid (HB2.out.trans (hb3.mono HB2.out.size))
  have HEF : ∀ z : Int, z ≠ 0 → e = .returned (.tuple #[.map none, .iface 45 (.int .i64 z)]) → True := fun _ _ _ => trivial
  have x4 := HX.out _ hb3
  have hr6 := HR6.out _ hb3
  have hq6 : u3.cell? ⟨b8, 0, none⟩ = some (.slice none 0 0) := by rw [cell_of_row _ _ _ _ _ _ hr6]; rfl
  have hf6 : u3.frozen? ⟨b8, 0, none⟩ = false := frozen_of_row _ _ _ _ _ hr6
  have HRS := hid (setCell_row (j := 0) (x := .slice none 0 0) hr6)
  clear hb3 HEF hr6
  by_cases h0 : (readW l).1 = 0
  · rw [if_pos h0] at h3
    obtain ⟨b, rfl, hw3⟩ := h3
    generalize (readW l).2 = W at hw3
    have HW3 := hid hw3
    clear hw3
    by_cases hz : rightF W H = 0
    · rw [hz, show errVal 0 = .nilIface from rfl]
      clear hz h0 HRD
      go_wp2_with fail
      refine (tcheck_any _ u3 (by decide +kernel)).mono ?_
      intro e u4 h4
      unfold names.Checked at h4
      rw [if_pos (by decide +kernel)] at h4
      obtain ⟨rfl, hb4'⟩ := h4
      have H34 := hid hb4'
      have HB4 := hid (HB3.out.trans (hb4'.mono HB3.out.size))
      have H24 := hid (H23.out.trans (hb4'.mono H23.out.size))
      clear hb4' x4 hq6 hf6
      go_wp2_with fail
      refine (kind_any W b _ u4 (HW3.out.at_.below H34.out) (by decide)).mono ?_
      rintro e u5 ⟨rfl, hb5'⟩
      have hk0 : kindF W [73] = 0 := by
        unfold kindF
        rw [if_neg (by decide), if_neg (by decide +kernel), if_neg (fun h => h.1 (by decide +kernel))]
      rw [show errVal (kindF W ({ data := #[73] } : ByteArray).data.toList) = .nilIface from by rw [show ({ data := #[73] } : ByteArray).data.toList = [73] from rfl, hk0]; rfl]
      have H35 := hid (H34.out.trans (hb5'.mono H34.out.size))
      have HB5 := hid (HB4.out.trans (hb5'.mono HB4.out.size))
      have H25 := hid (H24.out.trans (hb5'.mono H24.out.size))
      have x45 := HX.out _ H25.out
      have hr65 := HR6.out _ H25.out
      have hq65 : u5.cell? ⟨b8, 0, none⟩ = some (.slice none 0 0) := by rw [cell_of_row _ _ _ _ _ _ hr65]; rfl
      have hf65 : u5.frozen? ⟨b8, 0, none⟩ = false := frozen_of_row _ _ _ _ _ hr65
      have HRS5 := hid (setCell_row (j := 0) (x := .slice none 0 0) hr65)
      have HR65 := hid hr65
      clear hb5' hk0 hr65
      by_cases hn0 : n < 0
      · have HBE := hid (HE6.out _ HB5.out)
        go_wp2
        try simp only [Exit.inBlock, Exit.then]
        refine bodyPost_ret (results_cell_three rfl _ _ b8 _ _ _ _ rfl HRS5.out Tryz.underlying25 rfl (by kernel_rfl)) rfl ?_
        exact moreBy_err (z := 2) (by decide) rfl HBE.out
      by_cases hn10 : 10 < n
      · have HBE := hid (HE6.out _ HB5.out)
        go_wp2
        try simp only [Exit.inBlock, Exit.then]
        refine bodyPost_ret (results_cell_three rfl _ _ b8 _ _ _ _ rfl HRS5.out Tryz.underlying25 rfl (by kernel_rfl)) rfl ?_
        exact moreBy_err (z := 2) (by decide) rfl HBE.out
      obtain ⟨q, rfl⟩ : ∃ q : Nat, n = (q : Int) := ⟨n.toNat, by omega⟩
      have hq10 : q ≤ 10 := by omega
      obtain ⟨M, hMs, hmk, hms, hout⟩ := make_vals q (by omega)
      have HMK := hid hmk; have HMS := hid hms; have HMO1 := hid hout
      obtain ⟨WD, hWD⟩ : ∃ WD, u5.drew = WD := ⟨_, rfl⟩
      have H5D : Hid (Below u5.heap.size u5 WD) := hid (hWD ▸ (Below.refl _ _).drew)
      have HBD := hid (HB5.out.trans (H5D.out.mono HB5.out.size))
      have H2D := hid (H25.out.trans (H5D.out.mono H25.out.size))
      have HWD := hid (HW3.out.below (H35.out.trans (H5D.out.mono H35.out.size)))
      have HDA : Hid (∀ u, Below WD.heap.size WD u → u.cell? ⟨b5, 0, none⟩ = some (.slice ah H.length ch)) := hid (fun u hu => HX.out u (H2D.out.trans (hu.mono H2D.out.size)))
      have HD := hid (HDA.out WD (Below.refl _ _))
      have HR8D := hid (HR6.out _ H2D.out)
      obtain ⟨SI, hSI⟩ : ∃ SI, (({ data := #[91] } : ByteArray) ++ { data := #[73] }) = SI := ⟨_, rfl⟩
      have HSI := hid hSI
      have HTYS : Hid (typesT W SI.data.toList q = List.replicate q (bs [73])) := hid (by rw [← hSI]; rfl)
      clear hmk hms hout hMs x45 hq65 hf65
      go_wp2_with fail
      refine wp_region_s (fun u => u.cell? ⟨b5, 0, none⟩ = some (.slice ah H.length ch)) 8 (by kernel_rfl) ?_
      show Go.Proofs.YtkfkdbmgmifopaaGreatDoor.grow.wpAnyS _ _ _ _ _ _ _ _ _ u5.drew
      rw [hWD]
      refine s_calc 0 _ _ rfl (by kernel_rfl) (by kernel_rfl) (by kernel_rfl) (by kernel_rfl) (by decide) rfl (fun c a' w' h => ⟨(putS_defers _ _ _).symm.trans h.1, h.2⟩) (fun _ => HD.out) (fun u => by go_simp; rfl) ?_
      simp only [List.getElem_toArray, List.getElem_cons_zero, List.getElem_cons_succ, Act.put, List.setIfInBounds_toArray, List.set_cons_zero, List.set_cons_succ]
      refine s_take 1 _ _ rfl (by kernel_rfl) (by kernel_rfl) (by kernel_rfl) (by kernel_rfl) (by kernel_rfl) (by decide) rfl (fun c a' w' h => ⟨(putS_defers _ _ _).symm.trans h.1, h.2⟩) (fun _ => HD.out) (fun u hu => by go_simp; rfl) ?_
      simp only [List.getElem_toArray, List.getElem_cons_zero, List.getElem_cons_succ, Act.put, List.setIfInBounds_toArray, List.set_cons_zero, List.set_cons_succ]
      refine s_calc 3 _ _ rfl (by kernel_rfl) (by kernel_rfl) (by kernel_rfl) (by kernel_rfl) (by decide) rfl (fun c a' w' h => ⟨(putS_defers _ _ _).symm.trans h.1, h.2⟩) (fun _ => HD.out) (fun u => by go_simp; rfl) ?_
      simp only [List.getElem_toArray, List.getElem_cons_zero, List.getElem_cons_succ, Act.put, List.setIfInBounds_toArray, List.set_cons_zero, List.set_cons_succ]
      refine s_calc 4 _ _ rfl (by kernel_rfl) (by kernel_rfl) (by kernel_rfl) (by kernel_rfl) (by decide) rfl (fun c a' w' h => ⟨(putS_defers _ _ _).symm.trans h.1, h.2⟩) (fun _ => HD.out) (fun u => by go_simp; rfl) ?_
      simp only [List.getElem_toArray, List.getElem_cons_zero, List.getElem_cons_succ, Act.put, List.setIfInBounds_toArray, List.set_cons_zero, List.set_cons_succ]
      refine s_calc 5 _ _ rfl (by kernel_rfl) (by kernel_rfl) (by kernel_rfl) (by kernel_rfl) (by decide) rfl (fun c a' w' h => ⟨(putS_defers _ _ _).symm.trans h.1, h.2⟩) (fun _ => HD.out) (fun u => by go_simp; rfl) ?_
      simp only [List.getElem_toArray, List.getElem_cons_zero, List.getElem_cons_succ, Act.put, List.setIfInBounds_toArray, List.set_cons_zero, List.set_cons_succ]
      refine s_two 2 6 _ _ rfl rfl (by kernel_rfl) ?_ ?_
      · go_simp
        refine (copy_any _ H WD (HH.out.below HBD.out) HS.out HM.out).mono ?_
        rintro e wz1 ⟨vc, L, rfl, hoc, hLc⟩
        have HLC := hid hLc
        have HCB := hid hoc.own.below
        have HLL : Hid (L.length = H.length) := hid (by have := congrArg List.length hLc; rwa [List.length_map, List.length_map] at this)
        obtain ⟨ac, cc, hvc⟩ := hoc.own.sl.val
        subst hvc
        have HDz := hid (HDA.out wz1 HCB.out)
        refine ⟨fun _ => HDz.out, ?_⟩
        try simp only [List.getElem_toArray, List.getElem_cons_zero, List.getElem_cons_succ, Act.put, List.setIfInBounds_toArray, List.set_cons_zero, List.set_cons_succ]
        refine s_only 6 _ rfl (by kernel_rfl) ?_
        have hmk1 := HMK.out wz1
        have HOX1 := hid (HMO1.out wz1)
        obtain ⟨gx, hgx⟩ : ∃ gx, wz1.heap.size = gx := ⟨_, rfl⟩
        obtain ⟨wz, hwz⟩ : ∃ wz, wz1.alloc (.cells M 37) = wz := ⟨_, rfl⟩
        have HRZ : Hid (wz.heap[gx]? = some (.cells M 37 (0, 0))) := hid (by rw [← hwz, ← hgx]; exact heap_alloc_new _ _)
        rw [hgx, hwz] at hmk1 HOX1
        have HOCZ := hid ((hoc.later HOX1.out.below).any)
        have HOXZ := hid (Out.since HCB.out HOX1.out)
        have HZB := hid (HCB.out.trans (HOX1.out.below.mono HCB.out.size))
        have HDz2 := hid (HDA.out wz HZB.out)
        have HWZ := hid (HWD.out.below HZB.out)
        have HXSZ : Hid (∀ g cur, (Value.slice (some ⟨gx, 0, none⟩) q q).ownBlock = some g → wz.heap[g]? = some (.cells cur 37 (0, 0)) → ∀ u ∈ cur.toList, ∀ s, u ≠ .string s) := hid (fun g cur hg hr => by
          have e1 : gx = g := Option.some.inj hg
          subst e1
          rw [HRZ.out] at hr
          simp only [Option.some.injEq, Obj.cells.injEq] at hr
          rw [← hr.1]
          exact HMS.out)
        clear hoc hLc
        go_simp
        refine ⟨fun _ => HDz2.out, ?_⟩
        try simp only [List.getElem_toArray, List.getElem_cons_zero, List.getElem_cons_succ, Act.put, List.setIfInBounds_toArray, List.set_cons_zero, List.set_cons_succ]
        refine s_calc 7 _ _ rfl (by kernel_rfl) (by kernel_rfl) (by kernel_rfl) (by kernel_rfl) (by decide) rfl (fun c a' w' h => ⟨(putS_defers _ _ _).symm.trans h.1, h.2⟩) (fun _ => HDz2.out) (fun u => by go_simp; rfl) ?_
        simp only [List.getElem_toArray, List.getElem_cons_zero, List.getElem_cons_succ, Act.put, List.setIfInBounds_toArray, List.set_cons_zero, List.set_cons_succ]
        refine s_only 8 _ rfl (by kernel_rfl) ?_
        have HMO := hid (more_any W b (.slice ac L.length cc) (.slice (some ⟨gx, 0, none⟩) q q) L SI q WD wz HWZ.out HOCZ.out ⟨_, HOXZ.out⟩ HXSZ.out (by rw [← HSI.out]; decide +kernel) (by rw [HTYS.out, List.length_replicate]; exact Nat.le_refl _) (by omega)
          (fun u xs' hsl hwd => by rw [HTYS.out]; exact htypesA_any b SI [73] _ q q u (by rw [← HSI.out]; rfl) (by omega)) (by have := HLL.out; have := HM.out; omega) (fun x hx => by have := (small_same HLC.out HS.out x hx).2; omega))
        go_simp
        refine HMO.out.mono ?_
        rintro e u8 ⟨hb8, v, kk, z, L2, rfl, ho8, hz8, hl8, hh8⟩
        have HR68 : Hid (u8.heap[b8]? = some (.cells #[.slice none 0 0] 25 (0, 0))) := hid ((hb8.block _ (Array.getElem?_eq_some_iff.1 HR8D.out).1).trans HR8D.out)
        have hq8 : u8.cell? ⟨b8, 0, none⟩ = some (.slice none 0 0) := by rw [cell_of_row _ _ _ _ _ _ HR68.out]; rfl
        have hf8 : u8.frozen? ⟨b8, 0, none⟩ = false := frozen_of_row _ _ _ _ _ HR68.out
        obtain ⟨av, cv, hv⟩ := ho8.own.sl.val
        subst hv
        have HO8 := hid ((OwnAny.since HBD.out ho8).put (x := .slice av L2.length cv) HR68.out HLE.out)
        have HRS8 := hid (setCell_row (j := 0) (x := .slice av L2.length cv) HR68.out)
        have HZ8 := hid hz8; have HL8 := hid hl8; have HH8 := hid hh8
        obtain ⟨ez, hez⟩ : ∃ ez, errVal z = ez := ⟨_, rfl⟩
        have HEZ := hid hez
        rw [hez]
        clear ho8 hz8 hl8 hh8 hb8 hez
        refine ⟨fun h => absurd h (by decide), ?_⟩
        try simp only [List.getElem_toArray, List.getElem_cons_zero, List.getElem_cons_succ, Act.put, List.setIfInBounds_toArray, List.set_cons_zero, List.set_cons_succ]
        refine s_calc 9 _ _ rfl (by kernel_rfl) (by kernel_rfl) (by kernel_rfl) (by kernel_rfl) (by decide) rfl (fun c a' w' h => ⟨(putS_defers _ _ _).symm.trans h.1, h.2⟩) (fun h => absurd h (by decide)) (fun u => by go_simp; rfl) ?_
        simp only [List.getElem_toArray, List.getElem_cons_zero, List.getElem_cons_succ, Act.put, List.setIfInBounds_toArray, List.set_cons_zero, List.set_cons_succ]
        refine s_calc 10 _ _ rfl (by kernel_rfl) (by kernel_rfl) (by kernel_rfl) (by kernel_rfl) (by decide) rfl (fun c a' w' h => ⟨(putS_defers _ _ _).symm.trans h.1, h.2⟩) (fun h => absurd h (by decide)) (fun u => by go_simp; rfl) ?_
        simp only [List.getElem_toArray, List.getElem_cons_zero, List.getElem_cons_succ, Act.put, List.setIfInBounds_toArray, List.set_cons_zero, List.set_cons_succ]
        refine s_calc 11 _ _ rfl (by kernel_rfl) (by kernel_rfl) (by kernel_rfl) (by kernel_rfl) (by decide) rfl (fun c a' w' h => ⟨(putS_defers _ _ _).symm.trans h.1, h.2⟩) (fun h => absurd h (by decide)) (fun u => by go_simp; rfl) ?_
        simp only [List.getElem_toArray, List.getElem_cons_zero, List.getElem_cons_succ, Act.put, List.setIfInBounds_toArray, List.set_cons_zero, List.set_cons_succ]
        refine s_only 12 _ rfl (by kernel_rfl) ?_
        go_simp
        refine ⟨fun h => absurd h (by decide), ?_⟩
        try simp only [List.getElem_toArray, List.getElem_cons_zero, List.getElem_cons_succ, Act.put, List.setIfInBounds_toArray, List.set_cons_zero, List.set_cons_succ]
        refine s_calc 13 _ _ rfl (by kernel_rfl) (by kernel_rfl) (by kernel_rfl) (by kernel_rfl) (by decide) rfl (fun c a' w' h => ⟨(putS_defers _ _ _).symm.trans h.1, h.2⟩) (fun h => absurd h (by decide)) (fun u => by go_simp; rfl) ?_
        simp only [List.getElem_toArray, List.getElem_cons_zero, List.getElem_cons_succ, Act.put, List.setIfInBounds_toArray, List.set_cons_zero, List.set_cons_succ]
        refine s_calc 14 _ _ rfl (by kernel_rfl) (by kernel_rfl) (by kernel_rfl) (by kernel_rfl) (by decide) rfl (fun c a' w' h => ⟨(putS_defers _ _ _).symm.trans h.1, h.2⟩) (fun h => absurd h (by decide)) (fun u => by go_simp; rfl) ?_
        simp only [List.getElem_toArray, List.getElem_cons_zero, List.getElem_cons_succ, Act.put, List.setIfInBounds_toArray, List.set_cons_zero, List.set_cons_succ]
        refine s_end (by kernel_rfl) ?_
        go_wp2
        try simp only [Exit.inBlock, Exit.then]
        refine bodyPost_ret (results_cell_three rfl _ _ b8 _ _ _ _ rfl HRS8.out Tryz.underlying25 rfl (by kernel_rfl)) rfl ?_
        exact ⟨HO8.out.own.below, _, kk, z, L2, by rw [HEZ.out]; rfl, HO8.out, HZ8.out, HL8.out, HH8.out⟩
      · have hmk1 := HMK.out WD
        have HOX1 := hid (HMO1.out WD)
        obtain ⟨gx, hgx⟩ : ∃ gx, WD.heap.size = gx := ⟨_, rfl⟩
        obtain ⟨wz1, hwz⟩ : ∃ wz1, WD.alloc (.cells M 37) = wz1 := ⟨_, rfl⟩
        have HRZ1 : Hid (wz1.heap[gx]? = some (.cells M 37 (0, 0))) := hid (by rw [← hwz, ← hgx]; exact heap_alloc_new _ _)
        rw [hgx, hwz] at hmk1 HOX1
        have HDz := hid (HDA.out wz1 HOX1.out.below)
        have HBz1 := hid (HBD.out.trans (HOX1.out.below.mono HBD.out.size))
        go_simp
        refine ⟨fun _ => HDz.out, ?_⟩
        try simp only [List.getElem_toArray, List.getElem_cons_zero, List.getElem_cons_succ, Act.put, List.setIfInBounds_toArray, List.set_cons_zero, List.set_cons_succ]
        refine s_calc 7 _ _ rfl (by kernel_rfl) (by kernel_rfl) (by kernel_rfl) (by kernel_rfl) (by decide) rfl (fun c a' w' h => ⟨(putS_defers _ _ _).symm.trans h.1, h.2⟩) (fun _ => HDz.out) (fun u => by go_simp; rfl) ?_
        simp only [List.getElem_toArray, List.getElem_cons_zero, List.getElem_cons_succ, Act.put, List.setIfInBounds_toArray, List.set_cons_zero, List.set_cons_succ]
        refine s_only 2 _ rfl (by kernel_rfl) ?_
        go_simp
        refine (copy_any _ H wz1 (HH.out.below HBz1.out) HS.out HM.out).mono ?_
        rintro e wz ⟨vc, L, rfl, hoc, hLc⟩
        have HLC := hid hLc
        have HCB := hid hoc.own.below
        have HLL : Hid (L.length = H.length) := hid (by have := congrArg List.length hLc; rwa [List.length_map, List.length_map] at this)
        obtain ⟨ac, cc, hvc⟩ := hoc.own.sl.val
        subst hvc
        have HOCZ := hid (OwnTh.any (OwnTh.since HOX1.out.below hoc))
        have HOXZ := hid (HOX1.out.later HCB.out)
        have HZB := hid (HOX1.out.below.trans (HCB.out.mono HOX1.out.below.size))
        have HRZ : Hid (wz.heap[gx]? = some (.cells M 37 (0, 0))) := hid ((HCB.out.block _ (Array.getElem?_eq_some_iff.1 HRZ1.out).1).trans HRZ1.out)
        have HDz2 := hid (HDA.out wz HZB.out)
        have HWZ := hid (HWD.out.below HZB.out)
        have HXSZ : Hid (∀ g cur, (Value.slice (some ⟨gx, 0, none⟩) q q).ownBlock = some g → wz.heap[g]? = some (.cells cur 37 (0, 0)) → ∀ u ∈ cur.toList, ∀ s, u ≠ .string s) := hid (fun g cur hg hr => by
          have e1 : gx = g := Option.some.inj hg
          subst e1
          rw [HRZ.out] at hr
          simp only [Option.some.injEq, Obj.cells.injEq] at hr
          rw [← hr.1]
          exact HMS.out)
        clear hoc hLc
        refine ⟨fun _ => HDz2.out, ?_⟩
        try simp only [List.getElem_toArray, List.getElem_cons_zero, List.getElem_cons_succ, Act.put, List.setIfInBounds_toArray, List.set_cons_zero, List.set_cons_succ]
        refine s_only 8 _ rfl (by kernel_rfl) ?_
        have HMO := hid (more_any W b (.slice ac L.length cc) (.slice (some ⟨gx, 0, none⟩) q q) L SI q WD wz HWZ.out HOCZ.out ⟨_, HOXZ.out⟩ HXSZ.out (by rw [← HSI.out]; decide +kernel) (by rw [HTYS.out, List.length_replicate]; exact Nat.le_refl _) (by omega)
          (fun u xs' hsl hwd => by rw [HTYS.out]; exact htypesA_any b SI [73] _ q q u (by rw [← HSI.out]; rfl) (by omega)) (by have := HLL.out; have := HM.out; omega) (fun x hx => by have := (small_same HLC.out HS.out x hx).2; omega))
        go_simp
        refine HMO.out.mono ?_
        rintro e u8 ⟨hb8, v, kk, z, L2, rfl, ho8, hz8, hl8, hh8⟩
        have HR68 : Hid (u8.heap[b8]? = some (.cells #[.slice none 0 0] 25 (0, 0))) := hid ((hb8.block _ (Array.getElem?_eq_some_iff.1 HR8D.out).1).trans HR8D.out)
        have hq8 : u8.cell? ⟨b8, 0, none⟩ = some (.slice none 0 0) := by rw [cell_of_row _ _ _ _ _ _ HR68.out]; rfl
        have hf8 : u8.frozen? ⟨b8, 0, none⟩ = false := frozen_of_row _ _ _ _ _ HR68.out
        obtain ⟨av, cv, hv⟩ := ho8.own.sl.val
        subst hv
        have HO8 := hid ((OwnAny.since HBD.out ho8).put (x := .slice av L2.length cv) HR68.out HLE.out)
        have HRS8 := hid (setCell_row (j := 0) (x := .slice av L2.length cv) HR68.out)
        have HZ8 := hid hz8; have HL8 := hid hl8; have HH8 := hid hh8
        obtain ⟨ez, hez⟩ : ∃ ez, errVal z = ez := ⟨_, rfl⟩
        have HEZ := hid hez
        rw [hez]
        clear ho8 hz8 hl8 hh8 hb8 hez
        refine ⟨fun h => absurd h (by decide), ?_⟩
        try simp only [List.getElem_toArray, List.getElem_cons_zero, List.getElem_cons_succ, Act.put, List.setIfInBounds_toArray, List.set_cons_zero, List.set_cons_succ]
        refine s_calc 9 _ _ rfl (by kernel_rfl) (by kernel_rfl) (by kernel_rfl) (by kernel_rfl) (by decide) rfl (fun c a' w' h => ⟨(putS_defers _ _ _).symm.trans h.1, h.2⟩) (fun h => absurd h (by decide)) (fun u => by go_simp; rfl) ?_
        simp only [List.getElem_toArray, List.getElem_cons_zero, List.getElem_cons_succ, Act.put, List.setIfInBounds_toArray, List.set_cons_zero, List.set_cons_succ]
        refine s_calc 10 _ _ rfl (by kernel_rfl) (by kernel_rfl) (by kernel_rfl) (by kernel_rfl) (by decide) rfl (fun c a' w' h => ⟨(putS_defers _ _ _).symm.trans h.1, h.2⟩) (fun h => absurd h (by decide)) (fun u => by go_simp; rfl) ?_
        simp only [List.getElem_toArray, List.getElem_cons_zero, List.getElem_cons_succ, Act.put, List.setIfInBounds_toArray, List.set_cons_zero, List.set_cons_succ]
        refine s_calc 11 _ _ rfl (by kernel_rfl) (by kernel_rfl) (by kernel_rfl) (by kernel_rfl) (by decide) rfl (fun c a' w' h => ⟨(putS_defers _ _ _).symm.trans h.1, h.2⟩) (fun h => absurd h (by decide)) (fun u => by go_simp; rfl) ?_
        simp only [List.getElem_toArray, List.getElem_cons_zero, List.getElem_cons_succ, Act.put, List.setIfInBounds_toArray, List.set_cons_zero, List.set_cons_succ]
        refine s_only 12 _ rfl (by kernel_rfl) ?_
        go_simp
        refine ⟨fun h => absurd h (by decide), ?_⟩
        try simp only [List.getElem_toArray, List.getElem_cons_zero, List.getElem_cons_succ, Act.put, List.setIfInBounds_toArray, List.set_cons_zero, List.set_cons_succ]
        refine s_calc 13 _ _ rfl (by kernel_rfl) (by kernel_rfl) (by kernel_rfl) (by kernel_rfl) (by decide) rfl (fun c a' w' h => ⟨(putS_defers _ _ _).symm.trans h.1, h.2⟩) (fun h => absurd h (by decide)) (fun u => by go_simp; rfl) ?_
        simp only [List.getElem_toArray, List.getElem_cons_zero, List.getElem_cons_succ, Act.put, List.setIfInBounds_toArray, List.set_cons_zero, List.set_cons_succ]
        refine s_calc 14 _ _ rfl (by kernel_rfl) (by kernel_rfl) (by kernel_rfl) (by kernel_rfl) (by decide) rfl (fun c a' w' h => ⟨(putS_defers _ _ _).symm.trans h.1, h.2⟩) (fun h => absurd h (by decide)) (fun u => by go_simp; rfl) ?_
        simp only [List.getElem_toArray, List.getElem_cons_zero, List.getElem_cons_succ, Act.put, List.setIfInBounds_toArray, List.set_cons_zero, List.set_cons_succ]
        refine s_end (by kernel_rfl) ?_
        go_wp2
        try simp only [Exit.inBlock, Exit.then]
        refine bodyPost_ret (results_cell_three rfl _ _ b8 _ _ _ _ rfl HRS8.out Tryz.underlying25 rfl (by kernel_rfl)) rfl ?_
        exact ⟨HO8.out.own.below, _, kk, z, L2, by rw [HEZ.out]; rfl, HO8.out, HZ8.out, HL8.out, HH8.out⟩
    · have HEV : Hid (errVal (rightF W H) = .iface 45 (.int .i64 (rightF W H))) := hid (by unfold errVal; rw [if_neg hz])
      have HZ := hid hz
      have HBE := hid (HE6.out _ HB3.out)
      rw [HEV.out]
      clear hz h0
      go_wp2
      try simp only [Exit.inBlock, Exit.then]
      refine bodyPost_ret (results_cell_three rfl _ _ b8 _ _ _ _ rfl HRS.out Tryz.underlying25 rfl (by kernel_rfl)) rfl ?_
      exact moreBy_err HZ.out HEV.out HBE.out
  · rw [if_neg h0] at h3
    subst h3
    have HEV : Hid (errVal (readW l).1 = .iface 45 (.int .i64 (readW l).1)) := hid (by unfold errVal; rw [if_neg h0])
    have HZ := hid h0
    have HBE := hid (HE6.out _ HB3.out)
    rw [HEV.out]
    clear h0
    go_wp2
    try simp only [Exit.inBlock, Exit.then]
    refine bodyPost_ret (results_cell_three rfl _ _ b8 _ _ _ _ rfl HRS.out Tryz.underlying25 rfl (by kernel_rfl)) rfl ?_
    exact moreBy_err HZ.out HEV.out HBE.out
end Go.Proofs.YtkfkdbmgmifopaaGreatDoor.worlds

/- The walk of HeapOwn: a heap with one more thing shares no memory with the heap that was passed. Condition: the texts and lists are not great. -/
set_option linter.unusedSimpArgs false
set_option linter.unusedVariables false
namespace Go.Proofs.YtkfkdbmgmifopaaGreatDoor.worlds
open Go.RowKit Go.Proofs.YtkfkdbmgmifopaaGreatDoor.lib Go.Proofs.YtkfkdbmgmifopaaGreatDoor.maps Go.Proofs.YtkfkdbmgmifopaaGreatDoor.classes Go.Proofs.YtkfkdbmgmifopaaGreatDoor.errs Go.Proofs.YtkfkdbmgmifopaaGreatDoor.descs Go.Proofs.YtkfkdbmgmifopaaGreatDoor.names Go.Proofs.YtkfkdbmgmifopaaGreatDoor.grow Go.Proofs.YtkfkdbmgmifopaaGreatDoor.ins

/-- a heap of the call's own in a variable: the slices that its things hold stay, their types and values may turn -/
structure GH (w5 w : World) (b : Nat) (v : Value) (L : List Th) : Prop where
  own : ∃ xs, Out w5 w 35 2 v L.length xs ∧ ∀ i (hi : i < L.length), ∃ s, xs[i * 2]? = some (.string s) ∧ xs[i * 2 + 1]? = some L[i].vh
  at_ : ∀ x ∈ L, ∃ xs, Out w5 w 37 2 x.vh x.has.length xs
  row : w.heap[b]? = some (.cells #[v] 25 (0, 0))
theorem cells_th : ∀ (L : List Th) (i : Nat) (hi : i < L.length), (L.flatMap Th.cells)[i * 2]? = some (.string L[i].ty) ∧ (L.flatMap Th.cells)[i * 2 + 1]? = some L[i].vh
  | [], i, h => by simp at h
  | x :: r, 0, _ => ⟨rfl, rfl⟩
  | x :: r, i + 1, h => by
    have ih := cells_th r i (by simpa using h)
    rw [List.flatMap_cons, show Th.cells x = [.string x.ty, x.vh] from rfl]
    refine ⟨?_, ?_⟩
    · rw [show (i + 1) * 2 = i * 2 + 2 from by omega, List.getElem?_append_right (by simp)]
      exact ih.1
    · rw [show (i + 1) * 2 + 1 = i * 2 + 1 + 2 from by omega, List.getElem?_append_right (by simp)]
      exact ih.2
theorem GH.of {w5 w : World} {b : Nat} {v : Value} {L : List Th} (h : OwnAny w5 w v L) (hr : w.heap[b]? = some (.cells #[v] 25 (0, 0))) : GH w5 w b v L :=
  ⟨⟨_, h.own, fun i hi => ⟨_, cells_th L i hi⟩⟩, h.at_, hr⟩
theorem GH.later {w5 w w' : World} {b : Nat} {v : Value} {L : List Th} (h : GH w5 w b v L) (hb : Below w.heap.size w w') : GH w5 w' b v L := by
  obtain ⟨xs, ho, hx⟩ := h.own
  exact ⟨⟨xs, ho.later hb, hx⟩, fun x hx => by obtain ⟨ys, hy⟩ := h.at_ x hx; exact ⟨ys, hy.later hb⟩, (hb.block _ (Array.getElem?_eq_some_iff.1 h.row).1).trans h.row⟩
theorem GH.below {w5 w : World} {b : Nat} {v : Value} {L : List Th} (h : GH w5 w b v L) : Below w5.heap.size w5 w := by obtain ⟨xs, ho, _⟩ := h.own; exact ho.below
theorem GH.reset {w5 w : World} {b g : Nat} {v : Value} {L : List Th} {cur new : Array Value} (h : GH w5 w b v L) (hg : w.heap[g]? = some (.cells cur 37 (0, 0))) (hle : w5.heap.size ≤ g) (hs : new.size = cur.size) : GH w5 (w.setRow g new) b v L := by
  obtain ⟨xs, ho, hx⟩ := h.own
  exact ⟨⟨xs, out_reset_other ho hg hle thing_value, hx⟩, fun x hx => by obtain ⟨ys, hy⟩ := h.at_ x hx; exact out_reset hy hg hle hs, row_reset h.row hg (Ne.symm value_heap)⟩
theorem GH.get {w5 w : World} {b n : Nat} {a : Option Addr} {c : Nat} {L : List Th} (h : GH w5 w b (.slice a L.length c) L) {i : Nat} (hi : i < L.length) :
    ∃ g s, a = some ⟨g, 0, none⟩ ∧ w5.heap.size ≤ g ∧ w.cell? ⟨g, i * 2, none⟩ = some (.string s) ∧ w.frozen? ⟨g, i * 2, none⟩ = false ∧ w.cell? ⟨g, i * 2 + 1, none⟩ = some L[i].vh ∧ (∃ cur, w.heap[g]? = some (.cells cur 35 (0, 0))) := by
  obtain ⟨xs, ho, hx⟩ := h.own
  obtain ⟨s, h1, h2⟩ := hx i hi
  obtain ⟨g, cap, cur, hv, hle, hr, _⟩ := own_slot ho hi
  simp only [Value.slice.injEq] at hv
  obtain ⟨_, a', c', he, _, hcs⟩ := ho.sl
  simp only [Value.slice.injEq] at he
  obtain ⟨rfl, _, _⟩ := he
  have hag : a = some ⟨g, 0, none⟩ := hv.1
  rcases hcs with hcs | ⟨b', off, hb', hcs⟩
  · rw [hcs] at h1; cases h1
  · rw [hag] at hb'
    simp only [Option.some.injEq, Addr.mk.injEq, and_true] at hb'
    obtain ⟨rfl, rfl⟩ := hb'
    have k1 := hcs _ _ h1
    have k2 := hcs _ _ h2
    rw [Nat.zero_add] at k1 k2
    exact ⟨g, s, hag, hle, k1, frozen_of_row _ _ _ _ _ hr, k2, cur, hr⟩
/-- a cell of the own row written -/
theorem out_setCell {w0 w : World} {e : TypeId} {size : Nat} {n g cap j : Nat} {xs : List Value} (h : Out w0 w e size (.slice (some ⟨g, 0, none⟩) n cap) n xs) (hj : j < n * size) (x : Value) : Out w0 (w.setCell ⟨g, j, none⟩ x) e size (.slice (some ⟨g, 0, none⟩) n cap) n (xs.set j x) := by
  rcases h.own.2 with ⟨hv, _⟩ | ⟨g', cap', cur, hv, hb, hg, hn, hm, hs, ht⟩
  · cases hv
  · simp only [Value.slice.injEq, Option.some.injEq, Addr.mk.injEq, and_true, true_and] at hv
    obtain ⟨rfl, rfl⟩ := hv
    refine ⟨⟨by rw [List.length_set]; exact h.own.1, .inr ⟨g, cap, cur.setIfInBounds j x, rfl, hb, ?_, hn, hm, by simpa using hs, ?_⟩⟩, h.below.setCell hb x⟩
    · simp [World.setCell, Array.getElem?_modify, hg]
    · rw [← ht, Array.toList_setIfInBounds, List.take_set]
theorem GH.retype {w5 w : World} {b g c : Nat} {L : List Th} (h : GH w5 w b (.slice (some ⟨g, 0, none⟩) L.length c) L) {i : Nat} (hi : i < L.length) (s : ByteArray) : GH w5 (w.setCell ⟨g, i * 2, none⟩ (.string s)) b (.slice (some ⟨g, 0, none⟩) L.length c) L := by
  obtain ⟨xs, ho, hx⟩ := h.own
  obtain ⟨g', cap, cur, hv, hle, hr, _⟩ := own_slot ho hi
  simp only [Value.slice.injEq, Option.some.injEq, Addr.mk.injEq, and_true, true_and] at hv
  obtain ⟨rfl, rfl⟩ := hv
  have hl := ho.own.1
  refine ⟨⟨_, out_setCell ho (by omega) _, fun j hj => ?_⟩, fun x hx => by obtain ⟨ys, hy⟩ := h.at_ x hx; exact ⟨ys, out_put_other hy hr (Ne.symm thing_value) hle⟩, ?_⟩
  · obtain ⟨s', h1, h2⟩ := hx j hj
    by_cases hij : i = j
    · subst hij
      exact ⟨s, by rw [List.getElem?_set_self (by omega)], by rw [List.getElem?_set_ne (by omega)]; exact h2⟩
    · exact ⟨s', by rw [List.getElem?_set_ne (by omega)]; exact h1, by rw [List.getElem?_set_ne (by omega)]; exact h2⟩
  · rw [setCell_other fun e => ?_]
    · exact h.row
    · have := h.row
      rw [e, hr] at this
      simp only [Option.some.injEq, Obj.cells.injEq] at this
      exact thing_heap this.2.1
theorem GH.other {w5 w : World} {b g j : Nat} {v : Value} {L : List Th} {cur : Array Value} {x : Value} (h : GH w5 w b v L) (hr : w.heap[g]? = some (.cells cur 35 (0, 0))) (hle : w5.heap.size ≤ g) (hne : ∀ k, v.ownBlock = some k → k ≠ g) : GH w5 (w.setCell ⟨g, j, none⟩ x) b v L := by
  obtain ⟨xs, ho, hx⟩ := h.own
  refine ⟨⟨xs, ⟨ho.own.kept (grown_set w ⟨g, j, none⟩ x) ?_, ho.below.setCell hle x⟩, hx⟩, fun x hx => by obtain ⟨ys, hy⟩ := h.at_ x hx; exact ⟨ys, out_put_other hy hr (Ne.symm thing_value) hle⟩, ?_⟩
  · cases hv : v.ownBlock with
    | none => exact .inl rfl
    | some k => exact .inr fun e => hne k hv (Option.some.inj e)
  · rw [setCell_other fun e => ?_]
    · exact h.row
    · have := h.row
      rw [e, hr] at this
      simp only [Option.some.injEq, Obj.cells.injEq] at this
      exact thing_heap this.2.1

set_option maxRecDepth 100000 in
set_option maxHeartbeats 16000000 in
theorem heapown_any (va vt : Value) (l : List CV) (H : List Th) (c : ByteArray) (n : Int) (w : World) (hl : Clss w va l) (hf : FormsAt w) (hsm : ∀ c ∈ l, SmallC c) (hn : l.length ≤ 1048576) (hH : Ths w vt H) (hs : SmallH H) (hm : H.length ≤ 1048576) (hc : c.size ≤ 1048576) :
    Calls Tryz.prog 4 #[va, .agg #[vt], .string c, .int .i64 n] w fun e w' => e = .returned (.bool true) ∧ Below w.heap.size w w' := by
  obtain ⟨ah, ch, rfl⟩ := hH.sl.val
  obtain ⟨al, cl, rfl⟩ := hl.val
  obtain ⟨b1, hb1⟩ : ∃ b1, w.heap.size = b1 := ⟨_, rfl⟩
  obtain ⟨w1, hw1⟩ : ∃ w1, w.alloc (.cells #[.slice ah H.length ch] 25) = w1 := ⟨_, rfl⟩
  have HB1 : Hid (Below w.heap.size w w1) := hid (hw1 ▸ ext_alloc _ _)
  have hr1 : w1.heap[b1]? = some (.cells #[.slice ah H.length ch] 25 (0, 0)) := by rw [← hw1, ← hb1]; exact heap_alloc_new _ _
  have hlt1 := (Array.getElem?_eq_some_iff.1 hr1).1
  have HX : Hid (∀ u, Below w1.heap.size w1 u → u.cell? ⟨b1, 0, none⟩ = some (.slice ah H.length ch)) := hid (fun u hu => by
    have h := (hu.block _ hlt1).trans hr1
    rw [cell_of_row _ _ _ _ _ _ h]; rfl)
  have HL := hid hl; have HF := hid hf; have HSM := hid hsm; have HN := hid hn; have HH := hid hH; have HS := hid hs; have HM := hid hm; have HC := hid hc
  clear hl hf hsm hn hH hs hm hr1 hc
  go_enter Tryz.func4, Tryz.ntmps4
  go_wp2_with fail
  refine (names.named_any w1).mono ?_
  rintro e w2 ⟨rfl, hb2⟩
  have H12 := hid hb2
  have HB2 := hid (HB1.out.trans (hb2.mono HB1.out.size))
  have x0 := HX.out _ hb2
  clear hb2
  go_wp2_with fail
  refine (things_any _ H w2 (HH.out.below HB2.out) HS.out HM.out).mono ?_
  rintro e w3 ⟨v0, L0, rfl, ho0, hL0⟩
  have HE0 := hid hL0
  have HS0 : Hid (SmallH L0) := hid (small_same hL0 HS.out)
  have HL0 : Hid (L0.length = H.length) := hid (by have := congrArg List.length hL0; rwa [List.length_map, List.length_map] at this)
  have HT0 := hid ho0.ths
  have H23 := hid ho0.own.below
  have H13 := hid (H12.out.trans (H23.out.mono H12.out.size))
  have HB3 := hid (HB2.out.trans (H23.out.mono HB2.out.size))
  obtain ⟨a0, c0, hv0⟩ := ho0.own.sl.val
  subst hv0
  clear ho0 hL0 x0
  obtain ⟨b8, hb8⟩ : ∃ b8, w3.heap.size = b8 := ⟨_, rfl⟩
  obtain ⟨w5, hW5⟩ : ∃ w5, w3.alloc (.cells #[.slice a0 L0.length c0] 25) = w5 := ⟨_, rfl⟩
  have H35 : Hid (Below w3.heap.size w3 w5) := hid (hW5 ▸ ext_alloc _ _)
  have HB5 := hid (HB3.out.trans (H35.out.mono HB3.out.size))
  have H15 := hid (H13.out.trans (H35.out.mono H13.out.size))
  have hr8 : w5.heap[b8]? = some (.cells #[.slice a0 L0.length c0] 25 (0, 0)) := by rw [← hW5, ← hb8]; exact heap_alloc_new _ _
  have hlt8 := (Array.getElem?_eq_some_iff.1 hr8).1
  have HX8 : Hid (∀ u, Below w5.heap.size w5 u → u.cell? ⟨b8, 0, none⟩ = some (.slice a0 L0.length c0)) := hid (fun u hu => by
    have h := (hu.block _ hlt8).trans hr8
    rw [cell_of_row _ _ _ _ _ _ h]; rfl)
  have x8 := HX8.out _ (Below.refl _ _)
  clear hr8
  go_wp2_with fail
  refine (newthing_any _ _ l L0 c w5 (HL.out.below HB5.out) (HF.out.below HB5.out) HSM.out HN.out (HT0.out.below H35.out) HS0.out (by have := HL0.out; have := HM.out; omega) HC.out).mono ?_
  rintro e w6 ⟨hb6, vg, kg, zg, Lg, rfl, hog, hzg, hlg, hhg⟩
  have H56 := hid hb6
  have HHG := hid hhg
  obtain ⟨ag, cg, hvg⟩ := hog.own.sl.val
  subst hvg
  obtain ⟨bg, hbg⟩ : ∃ bg, w6.heap.size = bg := ⟨_, rfl⟩
  obtain ⟨w7, hW7⟩ : ∃ w7, w6.alloc (.cells #[.slice ag Lg.length cg] 25) = w7 := ⟨_, rfl⟩
  have H67 : Hid (Below w6.heap.size w6 w7) := hid (hW7 ▸ ext_alloc _ _)
  have H57 := hid (hb6.trans (H67.out.mono hb6.size))
  have HB7 := hid (HB5.out.trans (H57.out.mono HB5.out.size))
  have H17 := hid (H15.out.trans (H57.out.mono H15.out.size))
  have H37 := hid (H35.out.trans (H57.out.mono H35.out.size))
  have HG7 : Hid (GH w5 w7 bg (.slice ag Lg.length cg) Lg) := hid (.of (hog.later H67.out) (by rw [← hW7, ← hbg]; exact heap_alloc_new _ _))
  have HGB : Hid (∀ g, (Value.slice ag Lg.length cg).ownBlock = some g → g < w7.heap.size) := hid (fun g hg => by have := (hog.own.own.lt g hg).2; have := H67.out.size; omega)
  have HZG := hid hzg
  have x8b := HX8.out _ H57.out
  clear hb6 hog hzg hhg x8
  go_wp2_with fail
  refine (newarr_any _ _ l L0 n w7 (HL.out.below HB7.out) (HF.out.below HB7.out) HSM.out HN.out (HT0.out.below H37.out) HS0.out (by have := HL0.out; have := HM.out; omega)).mono ?_
  rintro e w8 ⟨hb8', vk, kk, zk, Lk, rfl, hok, hzk, hlk, hhk⟩
  have HHK := hid hhk
  obtain ⟨ak, ck, hvk⟩ := hok.own.sl.val
  subst hvk
  obtain ⟨bk, hbk⟩ : ∃ bk, w8.heap.size = bk := ⟨_, rfl⟩
  obtain ⟨w9, hW9⟩ : ∃ w9, w8.alloc (.cells #[.slice ak Lk.length ck] 25) = w9 := ⟨_, rfl⟩
  have H89 : Hid (Below w8.heap.size w8 w9) := hid (hW9 ▸ ext_alloc _ _)
  have H79 := hid (hb8'.trans (H89.out.mono hb8'.size))
  have HG : Hid (GH w5 w9 bg (.slice ag Lg.length cg) Lg) := hid (HG7.out.later H79.out)
  have HKO := hid ((OwnAny.since H57.out hok).later H89.out)
  have HK : Hid (GH w5 w9 bk (.slice ak Lk.length ck) Lk) := hid (.of HKO.out (by rw [← hW9, ← hbk]; exact heap_alloc_new _ _))
  have HKB : Hid (∀ k g, (Value.slice ak Lk.length ck).ownBlock = some k → (Value.slice ag Lg.length cg).ownBlock = some g → k ≠ g) := hid (fun k g hk hg => by
    have h1 := (hok.own.own.lt k hk).1
    have h2 := HGB.out g hg
    omega)
  have HZK := hid hzk
  clear hb8' hok hzk hhk HG7 HKO x8b
  go_wp2_with fail
  go_loopw [17] (fun i wr => ∃ k : Nat, k ≤ Lg.length ∧ i = .int .i64 (k : Int) ∧ Hid (GH w5 wr bg (.slice ag Lg.length cg) Lg) ∧ Hid (GH w5 wr bk (.slice ak Lk.length ck) Lk)) (fun i _ => Lg.length - (intOf i).toNat)
  case atStart => exact ⟨0, Nat.zero_le _, rfl, HG, HK⟩
  case round =>
    obtain ⟨k, hk, rfl, HGk, HKk⟩ := hrel
    clear HG HK
    obtain ⟨wb, hwb⟩ : ∃ wb, wb = wr := ⟨_, rfl⟩
    subst hwb
    have hk0 : (0 : Int) ≤ (k : Int) := by omega
    have xg : wb.cell? ⟨bg, 0, none⟩ = some (.slice ag Lg.length cg) := by rw [cell_of_row _ _ _ _ _ _ HGk.out.row]; rfl
    by_cases hlt : k < Lg.length
    · have hk1 : (k : Int) < (Lg.length : Int) := by omega
      obtain ⟨g, s, hag, hgl, hc1, hf1, hc2, cur, hcur⟩ := HGk.out.get (n := 0) hlt
      subst hag
      have HG2 := hid (HGk.out.retype hlt { data := #[63] })
      have HK2 := hid (HKk.out.other (j := k * 2) (x := .string { data := #[63] }) hcur hgl (fun q hq => HKB.out q g hq rfl))
      clear hcur hgl
      go_wp2_with fail
      clear xg hc1 hf1 hc2
      go_loopw [18] (fun i wr => ∃ j : Nat, j ≤ Lg[k].has.length ∧ i = .int .i64 (j : Int) ∧ Hid (GH w5 wr bg (.slice (some ⟨g, 0, none⟩) Lg.length cg) Lg) ∧ Hid (GH w5 wr bk (.slice ak Lk.length ck) Lk)) (fun i _ => Lg[k].has.length - (intOf i).toNat)
      case atStart => exact ⟨0, Nat.zero_le _, rfl, HG2, HK2⟩
      case round =>
        obtain ⟨j, hj, rfl, HGj, HKj⟩ := hrel
        clear HG2 HK2 HGk HKk
        obtain ⟨wc, hwc⟩ : ∃ wc, wc = wr := ⟨_, rfl⟩
        subst hwc
        have xg : wc.cell? ⟨bg, 0, none⟩ = some (.slice (some ⟨g, 0, none⟩) Lg.length cg) := by rw [cell_of_row _ _ _ _ _ _ HGj.out.row]; rfl
        obtain ⟨g', s', hag', _, _, _, he1, _⟩ := HGj.out.get (n := 0) hlt
        have hgg : g = g' := by simpa using hag'
        subst hgg
        clear hag'
        have hj0 : (0 : Int) ≤ (j : Int) := by omega
        have HXS := HGj.out.at_ _ (List.getElem_mem hlt)
        have hsx := HHG.out _ (List.getElem_mem hlt)
        generalize Lg[k] = x at he1 HXS hj hsx
        obtain ⟨ty, vh, has⟩ := x
        simp only at he1 HXS hj hsx
        obtain ⟨xs, hox⟩ := HXS
        obtain ⟨ax, cx, hvh⟩ := hox.sl.val
        subst hvh
        by_cases hjl : j < has.length
        · have hj1 : (j : Int) < (has.length : Int) := by omega
          obtain ⟨gx, capx, curx, hvx, hgl, hgr, hgs⟩ := own_slot hox hjl
          simp only [Value.slice.injEq] at hvx
          obtain ⟨rfl, _, rfl⟩ := hvx
          have HGR := hid hgr; have HGL := hid hgl; have HGS := hid hgs
          clear hgr hgl hgs hox
          go_wp2_with (refine wpList_store_mid rfl 37 (.tmp 74) (.tmp 73) rfl gx (j * 2) #[.int .i64 9, .int .i64 0] (by first | rfl | (simp; done)) rfl 37 curx HGR.out (by kernel_rfl) HGS.out (by simp [Value.oneCell']) ?_)
          intro new hnew
          have HGN := hid (HGj.out.reset HGR.out HGL.out hnew)
          have HKN := hid (HKj.out.reset HGR.out HGL.out hnew)
          clear hnew
          go_wp2_with fail
          go_roundw
          case rel => exact ⟨j + 1, by omega, by simp, HGN, HKN⟩
          case measure => simp [intOf]; omega
        · obtain rfl : j = has.length := by omega
          go_wp2_with fail
          go_roundw
          case rel => exact ⟨k + 1, by omega, by simp, HGj, HKj⟩
          case measure => simp [intOf]; omega
    · obtain rfl : k = Lg.length := by omega
      go_wp2_with fail
      clear xg hlt
      go_loopw [19] (fun i wr => ∃ k : Nat, k ≤ Lk.length ∧ i = .int .i64 (k : Int) ∧ Hid (GH w5 wr bg (.slice ag Lg.length cg) Lg) ∧ Hid (GH w5 wr bk (.slice ak Lk.length ck) Lk)) (fun i _ => Lk.length - (intOf i).toNat)
      case atStart => exact ⟨0, Nat.zero_le _, rfl, HGk, HKk⟩
      case round =>
        obtain ⟨k, hk, rfl, HGj, HKj⟩ := hrel
        clear HGk HKk
        obtain ⟨wc, hwc⟩ : ∃ wc, wc = wr := ⟨_, rfl⟩
        subst hwc
        have hk0 : (0 : Int) ≤ (k : Int) := by omega
        have xk : wc.cell? ⟨bk, 0, none⟩ = some (.slice ak Lk.length ck) := by rw [cell_of_row _ _ _ _ _ _ HKj.out.row]; rfl
        by_cases hlt : k < Lk.length
        · have hk1 : (k : Int) < (Lk.length : Int) := by omega
          go_wp2_with fail
          clear xk
          go_loopw [20] (fun i wr => ∃ j : Nat, j ≤ Lk[k].has.length ∧ i = .int .i64 (j : Int) ∧ Hid (GH w5 wr bg (.slice ag Lg.length cg) Lg) ∧ Hid (GH w5 wr bk (.slice ak Lk.length ck) Lk)) (fun i _ => Lk[k].has.length - (intOf i).toNat)
          case atStart => exact ⟨0, Nat.zero_le _, rfl, HGj, HKj⟩
          case round =>
            obtain ⟨j, hj, rfl, HGi, HKi⟩ := hrel
            clear HGj HKj
            obtain ⟨wd, hwd⟩ : ∃ wd, wd = wr := ⟨_, rfl⟩
            subst hwd
            have xk : wd.cell? ⟨bk, 0, none⟩ = some (.slice ak Lk.length ck) := by rw [cell_of_row _ _ _ _ _ _ HKi.out.row]; rfl
            obtain ⟨g', s', hag', _, _, _, he1, _⟩ := HKi.out.get (n := 0) hlt
            subst hag'
            have hj0 : (0 : Int) ≤ (j : Int) := by omega
            have HXS := HKi.out.at_ _ (List.getElem_mem hlt)
            have hsx := HHK.out _ (List.getElem_mem hlt)
            generalize Lk[k] = x at he1 HXS hj hsx
            obtain ⟨ty, vh, has⟩ := x
            simp only at he1 HXS hj hsx
            obtain ⟨xs, hox⟩ := HXS
            obtain ⟨ax, cx, hvh⟩ := hox.sl.val
            subst hvh
            by_cases hjl : j < has.length
            · have hj1 : (j : Int) < (has.length : Int) := by omega
              obtain ⟨gx, capx, curx, hvx, hgl, hgr, hgs⟩ := own_slot hox hjl
              simp only [Value.slice.injEq] at hvx
              obtain ⟨rfl, _, rfl⟩ := hvx
              have HGR := hid hgr; have HGL := hid hgl; have HGS := hid hgs
              clear hgr hgl hgs hox
              go_wp2_with (refine wpList_store_mid rfl 37 (.tmp 101) (.tmp 100) rfl gx (j * 2) #[.int .i64 9, .int .i64 0] (by first | rfl | (simp; done)) rfl 37 curx HGR.out (by kernel_rfl) HGS.out (by simp [Value.oneCell']) ?_)
              intro new hnew
              have HGN := hid (HGi.out.reset HGR.out HGL.out hnew)
              have HKN := hid (HKi.out.reset HGR.out HGL.out hnew)
              clear hnew
              go_wp2_with fail
              go_roundw
              case rel => exact ⟨j + 1, by omega, by simp, HGN, HKN⟩
              case measure => simp [intOf]; omega
            · obtain rfl : j = has.length := by omega
              go_wp2_with fail
              go_roundw
              case rel => exact ⟨k + 1, by omega, by simp, HGi, HKi⟩
              case measure => simp [intOf]; omega
        · obtain rfl : k = Lk.length := by omega
          have H5c := hid HGj.out.below
          have HBc := hid (HB5.out.trans (H5c.out.mono HB5.out.size))
          have H1c := hid (H15.out.trans (H5c.out.mono H15.out.size))
          have H3c := hid (H35.out.trans (H5c.out.mono H35.out.size))
          have x8 := HX8.out _ H5c.out
          have x1 := HX.out _ H1c.out
          clear hlt
          go_wp2_with fail
          refine (sheap_same _ _ L0 H wc (HT0.out.below H3c.out) (HH.out.below HBc.out) HE0.out (fun x hx => by have := (HS0.out x hx).2; omega) (by have := HL0.out; have := HM.out; omega)).mono ?_
          rintro e wz ⟨rfl, hbz⟩
          have HBz := hid (HBc.out.trans (hbz.mono HBc.out.size))
          have xgz : wz.cell? ⟨bg, 0, none⟩ = some (.slice ag Lg.length cg) := by rw [cell_of_row _ _ _ _ _ _ (HGj.out.later hbz).row]; rfl
          have xkz : wz.cell? ⟨bk, 0, none⟩ = some (.slice ak Lk.length ck) := by rw [cell_of_row _ _ _ _ _ _ (HKj.out.later hbz).row]; rfl
          clear hbz x8 x1 xk
          by_cases hzg0 : zg = 0
          · subst hzg0
            by_cases hzk0 : zk = 0
            · subst hzk0
              rw [show errVal 0 = .nilIface from rfl]
              go_wp2
              go_ret
              exact ⟨by first | rfl | simp, HBz.out⟩
            · have hlk0 : Lk.length = 0 := by rw [HZK.out hzk0]; rfl
              have HEV : Hid (errVal zk = .iface 45 (.int .i64 zk)) := hid (by unfold errVal; rw [if_neg hzk0])
              rw [HEV.out, show errVal 0 = .nilIface from rfl]
              rw [hlk0] at xkz
              go_wp2
              go_ret
              exact ⟨by first | rfl | simp, HBz.out⟩
          · have hlg0 : Lg.length = 0 := by rw [HZG.out hzg0]; rfl
            have HEG : Hid (errVal zg = .iface 45 (.int .i64 zg)) := hid (by unfold errVal; rw [if_neg hzg0])
            rw [hlg0] at xgz
            by_cases hzk0 : zk = 0
            · subst hzk0
              rw [HEG.out, show errVal 0 = .nilIface from rfl]
              go_wp2
              go_ret
              exact ⟨by first | rfl | simp, HBz.out⟩
            · have hlk0 : Lk.length = 0 := by rw [HZK.out hzk0]; rfl
              have HEV : Hid (errVal zk = .iface 45 (.int .i64 zk)) := hid (by unfold errVal; rw [if_neg hzk0])
              rw [HEG.out, HEV.out]
              rw [hlk0] at xkz
              go_wp2
              go_ret
              exact ⟨by first | rfl | simp, HBz.out⟩
end Go.Proofs.YtkfkdbmgmifopaaGreatDoor.worlds
