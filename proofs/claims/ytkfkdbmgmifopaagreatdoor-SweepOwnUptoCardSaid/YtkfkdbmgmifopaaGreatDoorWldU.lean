/- The walk of SweepOwn: a swept heap and its roots share no memory with what was passed. Condition: the texts and lists are not great. -/
import Derived.Test.YtkfkdbmgmifopaaGreatDoorWldR
import Derived.Test.YtkfkdbmgmifopaaGreatDoorNamed
import Derived.Deep.WholeRow
set_option linter.unusedSimpArgs false
set_option linter.unusedVariables false
namespace Go.Proofs.YtkfkdbmgmifopaaGreatDoor.worlds
open Go.RowKit Go.Proofs.YtkfkdbmgmifopaaGreatDoor.lib Go.Proofs.YtkfkdbmgmifopaaGreatDoor.maps Go.Proofs.YtkfkdbmgmifopaaGreatDoor.classes Go.Proofs.YtkfkdbmgmifopaaGreatDoor.errs Go.Proofs.YtkfkdbmgmifopaaGreatDoor.descs Go.Proofs.YtkfkdbmgmifopaaGreatDoor.names Go.Proofs.YtkfkdbmgmifopaaGreatDoor.grow Go.Proofs.YtkfkdbmgmifopaaGreatDoor.ins

section
variable {P : Program}
/-- a struct's store into the midst of a row -/
theorem wpList_store_mid {ops : Array Oper} {rest : List Oper} {o : Oper} {a : Act} {w : World} {Q : Exit → Act → World → Prop} (hgd : o.guard = none) (ty : TypeId) (x y : Operand) (ho : o.op = .store ty x y)
    (g off : Nat) (cells : Array Value) (hx : a.eval x = .pointer (some ⟨g, off, none⟩)) (hy : a.eval y = .agg cells)
    (t : TypeId) (cur : Array Value) (hg : w.heap[g]? = some (.cells cur t (0, 0))) (hi : (P.info? ty).map (·.size) = some cells.size) (hl : off + cells.size ≤ cur.size) (h1 : ∀ v ∈ cells.toList, v.oneCell' = true)
    (h : ∀ new : Array Value, new.size = cur.size → wpList P ops Q rest (a.put o.dst undef) (w.setRow g new)) : wpList P ops Q (o :: rest) a w := by
  refine wpList_plain hgd fun K hK => ?_
  have hst := run_storeCells_at (P := P) g off t cells.toList 0 cur w hg (by simpa using hl) h1
  obtain ⟨new, hnew⟩ : ∃ new, (cur.toList.take (off + 0) ++ cells.toList ++ cur.toList.drop (off + 0 + cells.toList.length)).toArray = new := ⟨_, rfl⟩
  have hns : new.size = cur.size := by
    rw [← hnew]
    simp only [List.size_toArray, List.length_append, List.length_take, List.length_drop, Array.length_toList]
    omega
  rw [hnew] at hst
  have hsv : (storeVar ty ⟨g, off, none⟩ (.agg cells)).run P w = .ok () (w.setRow g new) := by
    cases hq : P.info? ty with
    | none => simp [hq] at hi
    | some i =>
      have hs : cells.size = i.size := by simp [hq] at hi; omega
      simp [storeVar, sizeOf, typeInfo, hq, Value.cells, hs, hst]
  unfold Oper.wp execOp
  simp only [ho, hx, hy, Instr.storeAt, Instr.sureAddr, Sem.run_bind, Sem.run_pure, Result.andThen_ok, hsv]
  exact hK _ _ (h new hns)
end
theorem grown_setRow (w : World) (g : Nat) (cs : Array Value) : w.grownBy (w.setRow g cs) (some g) :=
  ⟨rfl, rfl, rfl, by rw [size_setRow]; exact Nat.le_refl _, fun k _ hne => heap_setRow_other w g k cs (fun e => hne (by rw [e]))⟩
/-- an own slice's row, with room for an element -/
theorem own_slot {w0 w : World} {e : TypeId} {size : Nat} {v : Value} {n : Nat} {xs : List Value} (h : Out w0 w e size v n xs) {i : Nat} (hi : i < n) :
    ∃ g cap cur, v = .slice (some ⟨g, 0, none⟩) n cap ∧ w0.heap.size ≤ g ∧ w.heap[g]? = some (.cells cur e (0, 0)) ∧ i * size + size ≤ cur.size := by
  rcases h.own.2 with ⟨_, h0⟩ | ⟨g, cap, cur, hv, hb, hg, hn, hm, hs, ht⟩
  · omega
  · refine ⟨g, cap, cur, hv, hb, hg, ?_⟩
    rw [hs, ← Nat.succ_mul]
    exact Nat.mul_le_mul_right _ (by omega)
/-- an own slice behind a row written anew -/
theorem out_reset {w0 w : World} {e eg : TypeId} {size : Nat} {v : Value} {n g : Nat} {xs : List Value} {cur new : Array Value} (h : Out w0 w e size v n xs) (hg : w.heap[g]? = some (.cells cur eg (0, 0))) (hle : w0.heap.size ≤ g) (hs : new.size = cur.size) :
    ∃ xs', Out w0 (w.setRow g new) e size v n xs' := by
  have hbel := Go.Proofs.YtkfkdbmgmifopaaGreatDoor.lib.below_setRow h.below hle new
  rcases h.own.2 with ⟨rfl, rfl⟩ | ⟨g', cap, cur', rfl, hb, hg', hn, hm, hs', ht⟩
  · exact ⟨[], ⟨by simp, .inl ⟨rfl, rfl⟩⟩, hbel⟩
  · by_cases he : g' = g
    · subst he
      rw [hg'] at hg
      simp only [Option.some.injEq, Obj.cells.injEq] at hg
      obtain ⟨rfl, rfl, _⟩ := hg
      refine ⟨new.toList.take (n * size), ⟨?_, .inr ⟨g', cap, new, rfl, hb, setRow_heap _ _ _ _ _ _ hg', hn, hm, by rw [hs, hs'], rfl⟩⟩, hbel⟩
      rw [List.length_take, Array.length_toList, hs, hs']
      exact Nat.min_eq_left (Nat.mul_le_mul_right _ hn)
    · exact ⟨xs, h.own.kept (grown_setRow w g new) (.inr fun e => he (Option.some.inj e)), hbel⟩
theorem out_reset_other {w0 w : World} {e eg : TypeId} {size : Nat} {v : Value} {n g : Nat} {xs : List Value} {cur new : Array Value} (h : Out w0 w e size v n xs) (hg : w.heap[g]? = some (.cells cur eg (0, 0))) (hle : w0.heap.size ≤ g) (hne : e ≠ eg) : Out w0 (w.setRow g new) e size v n xs := by
  refine ⟨h.own.kept (grown_setRow w g new) ?_, Go.Proofs.YtkfkdbmgmifopaaGreatDoor.lib.below_setRow h.below hle new⟩
  rcases h.own.2 with ⟨rfl, _⟩ | ⟨g', cap, cur', rfl, _, hg', _⟩
  · exact .inl rfl
  · refine .inr fun he => ?_
    have := Option.some.inj he
    subst this
    rw [hg'] at hg
    simp only [Option.some.injEq, Obj.cells.injEq] at hg
    exact hne hg.2.1
theorem row_reset {w : World} {e eg : TypeId} {b g : Nat} {c cur new : Array Value} (h : w.heap[b]? = some (.cells c e (0, 0))) (hg : w.heap[g]? = some (.cells cur eg (0, 0))) (hne : e ≠ eg) : (w.setRow g new).heap[b]? = some (.cells c e (0, 0)) := by
  rw [heap_setRow_other w g b new fun he => ?_]
  · exact h
  · subst he
    rw [h] at hg
    simp only [Option.some.injEq, Obj.cells.injEq] at hg
    exact hne hg.2.1
theorem thcell_at {w : World} {a : Option Addr} {n c : Nat} {l : List Th} (h : Sl w (.slice a n c) l.length 2 (l.flatMap Th.cells)) {k : Nat} (hk : k < l.length) :
    ∃ b off, a = some ⟨b, off, none⟩ ∧ w.cell? ⟨b, off + k * 2, none⟩ = some (.string l[k].ty) ∧ w.cell? ⟨b, off + k * 2 + 1, none⟩ = some l[k].vh := by
  obtain ⟨b, off, ha, hc⟩ := row_at (cells := Th.cells) (sz := 2) (fun _ => rfl) h hk (by decide)
  refine ⟨b, off, ha, ?_, ?_⟩
  · have := hc 0 (by decide); rw [Nat.add_zero] at this; exact this
  · have := hc 1 (by decide); rw [← Nat.add_assoc] at this; exact this

/-- a swept heap in a variable, its values whatever, and the roots -/
structure OS (w5 w : World) (b : Nat) (v : Value) (L : List Th) (vr : Value) (m : Nat) : Prop where
  own : Out w5 w 35 2 v L.length (L.flatMap Th.cells)
  at_ : ∀ x ∈ L, ∃ xs, Out w5 w 37 2 x.vh x.has.length xs
  res : ∃ xs, Out w5 w 37 2 vr m xs
  row : w.heap[b]? = some (.cells #[v] 25 (0, 0))
theorem OS.put {w5 w : World} {b m g : Nat} {v vr : Value} {L : List Th} {cur new : Array Value} (h : OS w5 w b v L vr m) (hg : w.heap[g]? = some (.cells cur 37 (0, 0))) (hle : w5.heap.size ≤ g) (hs : new.size = cur.size) : OS w5 (w.setRow g new) b v L vr m :=
  ⟨out_reset_other h.own hg hle thing_value, fun x hx => by obtain ⟨xs, ho⟩ := h.at_ x hx; exact out_reset ho hg hle hs, by obtain ⟨xs, ho⟩ := h.res; exact out_reset ho hg hle hs, row_reset h.row hg (Ne.symm value_heap)⟩
theorem sweep_shape {w w' : World} {l : List CV} {H : List Th} {R : List Vl} {e : Ending} (hs : SmallH H) (h : SweepBy w l H R e w') : ∃ v vr z L m, e = .returned (.tuple #[.agg #[v], vr, errVal z]) ∧ OwnTh w w' v L ∧ (∃ xs, Out w w' 37 2 vr m xs) ∧ (z ≠ 0 → m = 0) ∧ m ≤ 50 ∧ L.length ≤ 50 ∧ SmallH L := by
  unfold SweepBy at h
  by_cases h0 : rootsF l H R = 0
  · rw [if_pos h0] at h
    obtain ⟨v, vr, L, bs, rfl, hd, ho, hL, hr⟩ := h
    have ht := (twice_of h0 hd hL hs).small
    obtain ⟨h1, _, _, h2⟩ := roots_ok h0
    refine ⟨v, vr, 0, L, R.length, rfl, ho, ⟨_, hr⟩, fun h => absurd rfl h, h2, ?_, ht⟩
    have := congrArg List.length hL
    rw [List.length_map] at this
    have h3 := swept_len bs H
    omega
  · rw [if_neg h0] at h
    obtain ⟨rfl, hb⟩ := h
    exact ⟨_, _, _, [], 0, rfl, (OwnTh.nil w).later hb, ⟨[], (Out.nil w _ _).later hb⟩, fun _ => rfl, by omega, by simp, fun x hx => absurd hx List.not_mem_nil⟩

set_option maxRecDepth 100000 in
set_option maxHeartbeats 16000000 in
theorem sweepown_any (va vt vr : Value) (l : List CV) (H : List Th) (R : List Vl) (w : World) (hl : Clss w va l) (hf : FormsAt w) (hsm : ∀ c ∈ l, SmallC c) (hn : l.length ≤ 1048576) (hH : Ths w vt H) (hs : SmallH H) (hm : H.length ≤ 1048576) (hR : Vls w vr R) (hr : R.length ≤ 1048576) :
    Calls Tryz.prog 3 #[va, .agg #[vt], vr] w fun e w' => e = .returned (.bool true) ∧ Below w.heap.size w w' := by
  obtain ⟨ah, ch, rfl⟩ := hH.sl.val
  obtain ⟨al, cl, rfl⟩ := hl.val
  obtain ⟨ar, cr, rfl⟩ := hR.val
  obtain ⟨b1, hb1⟩ : ∃ b1, w.heap.size = b1 := ⟨_, rfl⟩
  obtain ⟨w1, hw1⟩ : ∃ w1, w.alloc (.cells #[.slice ah H.length ch] 25) = w1 := ⟨_, rfl⟩
  have HB1 : Hid (Below w.heap.size w w1) := hid (hw1 ▸ ext_alloc _ _)
  have hr1 : w1.heap[b1]? = some (.cells #[.slice ah H.length ch] 25 (0, 0)) := by rw [← hw1, ← hb1]; exact heap_alloc_new _ _
  have hlt1 := (Array.getElem?_eq_some_iff.1 hr1).1
  have HX : Hid (∀ u, Below w1.heap.size w1 u → u.cell? ⟨b1, 0, none⟩ = some (.slice ah H.length ch)) := hid (fun u hu => by
    have h := (hu.block _ hlt1).trans hr1
    rw [cell_of_row _ _ _ _ _ _ h]; rfl)
  have HL := hid hl; have HF := hid hf; have HSM := hid hsm; have HN := hid hn; have HH := hid hH; have HS := hid hs; have HM := hid hm; have HR := hid hR; have HRN := hid hr
  clear hl hf hsm hn hH hs hm hR hr1 hr
  go_enter Tryz.func3, Tryz.ntmps3
  go_wp2_with fail
  refine (names.named_any w1).mono ?_
  rintro e w2 ⟨rfl, hb2⟩
  have H12 := hid hb2
  have HB2 := hid (HB1.out.trans (hb2.mono HB1.out.size))
  have x0 := HX.out _ hb2
  clear hb2
  go_wp2_with fail
  refine (things_any _ H w2 (HH.out.below HB2.out) HS.out HM.out).mono ?_
  rintro e w3 ⟨v0, L0, rfl, ho0, hL0⟩
  have HE0 := hid hL0
  have HS0 : Hid (SmallH L0) := hid (small_same hL0 HS.out)
  have HL0 : Hid (L0.length = H.length) := hid (by have := congrArg List.length hL0; rwa [List.length_map, List.length_map] at this)
  have HT0 := hid ho0.ths
  have H23 := hid ho0.own.below
  have H13 := hid (H12.out.trans (H23.out.mono H12.out.size))
  have HB3 := hid (HB2.out.trans (H23.out.mono HB2.out.size))
  obtain ⟨a0, c0, hv0⟩ := ho0.own.sl.val
  subst hv0
  clear ho0 hL0 x0
  obtain ⟨b8, hb8⟩ : ∃ b8, w3.heap.size = b8 := ⟨_, rfl⟩
  obtain ⟨W4, hW4⟩ : ∃ W4, w3.alloc (.cells #[.slice a0 L0.length c0] 25) = W4 := ⟨_, rfl⟩
  have H34 : Hid (Below w3.heap.size w3 W4) := hid (hW4 ▸ ext_alloc _ _)
  have HB4 := hid (HB3.out.trans (H34.out.mono HB3.out.size))
  have H14 := hid (H13.out.trans (H34.out.mono H13.out.size))
  have hr8 : W4.heap[b8]? = some (.cells #[.slice a0 L0.length c0] 25 (0, 0)) := by rw [← hW4, ← hb8]; exact heap_alloc_new _ _
  have hlt8 := (Array.getElem?_eq_some_iff.1 hr8).1
  have HX8 : Hid (∀ u, Below W4.heap.size W4 u → u.cell? ⟨b8, 0, none⟩ = some (.slice a0 L0.length c0)) := hid (fun u hu => by
    have h := (hu.block _ hlt8).trans hr8
    rw [cell_of_row _ _ _ _ _ _ h]; rfl)
  clear hr8
  go_wp2_with fail
  refine (values_any _ R W4 (HR.out.below HB4.out) (by have := HRN.out; omega)).mono ?_
  rintro e w5 ⟨v9, rfl, ho9⟩
  have HV9 := hid (show Vls w5 v9 R from ho9.sl)
  have H45 := hid ho9.below
  have HB5 := hid (HB4.out.trans (H45.out.mono HB4.out.size))
  have H15 := hid (H14.out.trans (H45.out.mono H14.out.size))
  have H35 := hid (H34.out.trans (H45.out.mono H34.out.size))
  obtain ⟨a9, c9, hv9⟩ := ho9.sl.val
  subst hv9
  clear ho9
  have x8 := HX8.out _ H45.out
  go_wp2_with fail
  refine (sweep_any _ _ _ l L0 R w5 (HL.out.below HB5.out) (HF.out.below HB5.out) HSM.out HN.out (HT0.out.below H35.out) HS0.out (by have := HL0.out; have := HM.out; omega) HV9.out).mono ?_
  intro e w6 h6
  obtain ⟨v, vr, z, L, m, rfl, ho6, hr6, hzm, hm50, hl50, hsl⟩ := sweep_shape HS0.out h6
  have HSL := hid hsl
  obtain ⟨b10, hb10⟩ : ∃ b10, w6.heap.size = b10 := ⟨_, rfl⟩
  obtain ⟨W7, hW7⟩ : ∃ W7, w6.alloc (.cells #[v] 25) = W7 := ⟨_, rfl⟩
  have HO : Hid (OS w5 W7 b10 v L vr m) := hid (by
    have hx : Below w6.heap.size w6 W7 := hW7 ▸ ext_alloc _ _
    obtain ⟨xs, hr⟩ := hr6
    exact ⟨ho6.own.later hx, fun x hx' => ⟨_, (ho6.at_ x hx').later hx⟩, ⟨_, hr.later hx⟩, by rw [← hW7, ← hb10]; exact heap_alloc_new _ _⟩)
  obtain ⟨av, cv, hv⟩ := ho6.own.sl.val
  subst hv
  obtain ⟨avr, cvr, hvr⟩ : ∃ a c, vr = .slice a m c := by obtain ⟨xs, hr⟩ := hr6; exact hr.sl.val
  subst hvr
  have HZM := hid hzm
  have hl51 : (L.length : Int) ≤ 50 := by omega
  have hm51 : (m : Int) ≤ 50 := by omega
  clear h6 ho6 hr6 hzm hsl x8
  go_wp2_with fail
  go_loopw [13] (fun i wr => ∃ k : Nat, k ≤ L.length ∧ i = .int .i64 (k : Int) ∧ Hid (OS w5 wr b10 (.slice av L.length cv) L (.slice avr m cvr) m)) (fun i _ => L.length - (intOf i).toNat)
  case atStart => exact ⟨0, Nat.zero_le _, rfl, HO⟩
  case round =>
    obtain ⟨k, hk, rfl, HOk⟩ := hrel
    clear HO
    obtain ⟨wb, hwb⟩ : ∃ wb, wb = wr := ⟨_, rfl⟩
    subst hwb
    have hk0 : (0 : Int) ≤ (k : Int) := by omega
    have x10 : wb.cell? ⟨b10, 0, none⟩ = some (.slice av L.length cv) := by rw [cell_of_row _ _ _ _ _ _ HOk.out.row]; rfl
    by_cases hlt : k < L.length
    · have hk1 : (k : Int) < (L.length : Int) := by omega
      go_wp2_with fail
      clear x10
      go_loopw [14] (fun i wr => ∃ j : Nat, j ≤ L[k].has.length ∧ i = .int .i64 (j : Int) ∧ Hid (OS w5 wr b10 (.slice av L.length cv) L (.slice avr m cvr) m)) (fun i _ => L[k].has.length - (intOf i).toNat)
      case atStart => exact ⟨0, Nat.zero_le _, rfl, HOk⟩
      case round =>
        obtain ⟨j, hj, rfl, HOj⟩ := hrel
        clear HOk
        obtain ⟨wc, hwc⟩ : ∃ wc, wc = wr := ⟨_, rfl⟩
        subst hwc
        have x10 : wc.cell? ⟨b10, 0, none⟩ = some (.slice av L.length cv) := by rw [cell_of_row _ _ _ _ _ _ HOj.out.row]; rfl
        obtain ⟨ht, ho, hat, _, he1⟩ := thcell_at HOj.out.own.sl hlt
        have HAT := hid hat
        have hj0 : (0 : Int) ≤ (j : Int) := by omega
        have HXS := HOj.out.at_ _ (List.getElem_mem hlt)
        have hsx := (HSL.out _ (List.getElem_mem hlt)).2
        generalize L[k] = x at he1 HXS hj hsx
        obtain ⟨ty, vh, has⟩ := x
        simp only at he1 HXS hj hsx
        obtain ⟨xs, hox⟩ := HXS
        obtain ⟨ax, cx, hvh⟩ := hox.sl.val
        subst hvh
        subst hat
        by_cases hjl : j < has.length
        · have hj1 : (j : Int) < (has.length : Int) := by omega
          obtain ⟨g, cap, cur, hvg, hgl, hgr, hgs⟩ := own_slot hox hjl
          simp only [Value.slice.injEq] at hvg
          obtain ⟨rfl, _, rfl⟩ := hvg
          have HGR := hid hgr; have HGL := hid hgl; have HGS := hid hgs
          clear hgr hgl hgs hox
          go_wp2_with (refine wpList_store_mid rfl 37 (.tmp 59) (.tmp 58) rfl g (j * 2) #[.int .i64 9, .int .i64 0] (by first | rfl | (simp; done)) rfl 37 cur HGR.out (by kernel_rfl) HGS.out (by simp [Value.oneCell']) ?_)
          intro new hnew
          have HN := hid (HOj.out.put HGR.out HGL.out hnew)
          clear hnew
          go_wp2_with fail
          go_roundw
          case rel => exact ⟨j + 1, by omega, by simp, HN⟩
          case measure => simp [intOf]; omega
        · obtain rfl : j = has.length := by omega
          go_wp2_with fail
          go_roundw
          case rel => exact ⟨k + 1, by omega, by simp, HOj⟩
          case measure => simp [intOf]; omega
    · obtain rfl : k = L.length := by omega
      go_wp2_with fail
      clear x10 hlt
      go_loopw [15] (fun i wr => ∃ k : Nat, k ≤ m ∧ i = .int .i64 (k : Int) ∧ Hid (OS w5 wr b10 (.slice av L.length cv) L (.slice avr m cvr) m)) (fun i _ => m - (intOf i).toNat)
      case atStart => exact ⟨0, Nat.zero_le _, rfl, HOk⟩
      case round =>
        obtain ⟨k, hk, rfl, HOj⟩ := hrel
        clear HOk
        obtain ⟨wc, hwc⟩ : ∃ wc, wc = wr := ⟨_, rfl⟩
        subst hwc
        have hk0 : (0 : Int) ≤ (k : Int) := by omega
        by_cases hjl : k < m
        · have hj1 : (k : Int) < (m : Int) := by omega
          obtain ⟨xs, hox⟩ := HOj.out.res
          obtain ⟨g, cap, cur, hvg, hgl, hgr, hgs⟩ := own_slot hox hjl
          simp only [Value.slice.injEq] at hvg
          obtain ⟨rfl, _, rfl⟩ := hvg
          have HGR := hid hgr; have HGL := hid hgl; have HGS := hid hgs
          clear hgr hgl hgs hox
          go_wp2_with (refine wpList_store_mid rfl 37 (.tmp 69) (.tmp 68) rfl g (k * 2) #[.int .i64 9, .int .i64 0] (by first | rfl | (simp; done)) rfl 37 cur HGR.out (by kernel_rfl) HGS.out (by simp [Value.oneCell']) ?_)
          intro new hnew
          have HN := hid (HOj.out.put HGR.out HGL.out hnew)
          clear hnew
          go_wp2_with fail
          go_roundw
          case rel => exact ⟨k + 1, by omega, by simp, HN⟩
          case measure => simp [intOf]; omega
        · obtain rfl : k = m := by omega
          have H5c := hid HOj.out.own.below
          have HBc := hid (HB5.out.trans (H5c.out.mono HB5.out.size))
          have H1c := hid (H15.out.trans (H5c.out.mono H15.out.size))
          have H4c := hid (H45.out.trans (H5c.out.mono H45.out.size))
          have H3c := hid (H35.out.trans (H5c.out.mono H35.out.size))
          have x8 := HX8.out _ H4c.out
          have x1 := HX.out _ H1c.out
          clear hjl HOj
          go_wp2_with fail
          refine (sheap_same _ _ L0 H wc (HT0.out.below H3c.out) (HH.out.below HBc.out) HE0.out (fun x hx => by have := (HS0.out x hx).2; omega) (by have := HL0.out; have := HM.out; omega)).mono ?_
          rintro e w8 ⟨rfl, hb8'⟩
          have HB8 := hid (HBc.out.trans (hb8'.mono HBc.out.size))
          have H58 := hid (H5c.out.trans (hb8'.mono H5c.out.size))
          clear hb8' x8 x1
          go_wp2_with fail
          refine (svals_same _ _ R w8 (HV9.out.below H58.out) (HR.out.below HB8.out) (by have := HRN.out; omega)).mono ?_
          rintro e w9 ⟨rfl, hb9⟩
          have HB9 := hid (HB8.out.trans (hb9.mono HB8.out.size))
          clear hb9
          by_cases hz : z = 0
          · subst hz
            rw [show errVal 0 = .nilIface from rfl]
            go_wp2
            go_ret
            exact ⟨by first | rfl | simp, HB9.out⟩
          · have hk0' := HZM.out hz
            have HEV : Hid (errVal z = .iface 45 (.int .i64 z)) := hid (by unfold errVal; rw [if_neg hz])
            rw [HEV.out]
            subst hk0'
            go_wp2
            go_ret
            exact ⟨by first | rfl | simp, HB9.out⟩
end Go.Proofs.YtkfkdbmgmifopaaGreatDoor.worlds
