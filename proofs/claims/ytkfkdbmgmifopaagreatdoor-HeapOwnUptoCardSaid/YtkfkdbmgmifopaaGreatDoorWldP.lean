/- Heaps swept: sweep.Live, the closure of sweep.Sweep. Condition: the texts and lists are not great. -/
import Derived.Test.YtkfkdbmgmifopaaGreatDoorWldO
import Derived.Test.YtkfkdbmgmifopaaGreatDoorWldN
set_option linter.unusedSimpArgs false
set_option linter.unusedVariables false
namespace Go.Proofs.YtkfkdbmgmifopaaGreatDoor.worlds
open Go.RowKit Go.Proofs.YtkfkdbmgmifopaaGreatDoor.lib Go.Proofs.YtkfkdbmgmifopaaGreatDoor.maps Go.Proofs.YtkfkdbmgmifopaaGreatDoor.classes Go.Proofs.YtkfkdbmgmifopaaGreatDoor.errs Go.Proofs.YtkfkdbmgmifopaaGreatDoor.descs Go.Proofs.YtkfkdbmgmifopaaGreatDoor.names Go.Proofs.YtkfkdbmgmifopaaGreatDoor.grow Go.Proofs.YtkfkdbmgmifopaaGreatDoor.ins

theorem roots_ok {l : List CV} {H : List Th} {R : List Vl} (h : rootsF l H R = 0) : H.length ≤ 50 ∧ (∀ x ∈ H, ∀ v ∈ x.has, Points H v) ∧ (∀ v ∈ R, Points H v) ∧ R.length ≤ 50 := by
  unfold rootsF at h
  by_cases h0 : heapF l H ≠ 0
  · rw [if_pos h0] at h; exact absurd h h0
  rw [if_neg h0] at h
  have h0' : heapF l H = 0 := by simpa using h0
  obtain ⟨_, h2, _⟩ := heap_types h0'
  obtain ⟨h3, h4⟩ := right_points h2
  by_cases h5 : 50 < R.length
  · rw [if_pos h5] at h; cases h
  rw [if_neg h5] at h
  refine ⟨h3, h4, fun v hv => ?_, by omega⟩
  have := ff_all.1 h v hv
  unfold rootF at this
  by_cases ho : rootOk (readW l).2 H v = true
  · exact root_points ho
  · rw [if_neg ho] at this; cases this
theorem infoI : (Tryz.prog.info? 3).map (fun i => (i.zero, i.size, i.bytes)) = some (some (.int .i64 0), 1, 8) := by kernel_rfl
theorem bool_at {w : World} {a : Option Addr} {n c : Nat} {l : List Bool} (h : Sl w (.slice a n c) l.length 1 (l.map .bool)) {k : Nat} (hk : k < l.length) :
    ∃ b off, a = some ⟨b, off, none⟩ ∧ w.cell? ⟨b, off + k, none⟩ = some (.bool l[k]) := by
  obtain ⟨_, a', c', he, _, h⟩ := h
  simp only [Value.slice.injEq] at he
  obtain ⟨rfl, _, rfl⟩ := he
  rcases h with h | ⟨b, off, rfl, h⟩
  · have : l.length = 0 := by simpa using congrArg List.length h
    omega
  · exact ⟨b, off, rfl, h k _ (by rw [List.getElem?_map, List.getElem?_eq_getElem hk]; rfl)⟩

/-- what sweep.Live answers -/
def LiveBy (w : World) (l : List CV) (H : List Th) (R : List Vl) (e : Ending) (w' : World) : Prop :=
  if rootsF l H R = 0 then ∃ v bs, e = .returned (.tuple #[v, .nilIface]) ∧ Done H R bs ∧ Out w w' 3 1 v (placesL (false :: bs)).length ((placesL (false :: bs)).map (.int .i64))
  else e = .returned (.tuple #[.slice none 0 0, errVal (rootsF l H R)]) ∧ Below w.heap.size w w'

theorem liveBy_ok {w w' : World} {l : List CV} {H : List Th} {R : List Vl} {v : Value} {bs : List Bool} (h0 : rootsF l H R = 0) (hd : Done H R bs) (ho : Out w w' 3 1 v (placesL (false :: bs)).length ((placesL (false :: bs)).map (.int .i64))) : LiveBy w l H R (.returned (.tuple #[v, .nilIface])) w' := by
  unfold LiveBy; rw [if_pos h0]; exact ⟨v, bs, rfl, hd, ho⟩
theorem liveBy_err {w w' : World} {l : List CV} {H : List Th} {R : List Vl} {v : Value} (h0 : ¬ rootsF l H R = 0) (hv : errVal (rootsF l H R) = v) (hb : Below w.heap.size w w') : LiveBy w l H R (.returned (.tuple #[.slice none 0 0, v])) w' := by
  unfold LiveBy; rw [if_neg h0, hv]; exact ⟨rfl, hb⟩
set_option maxRecDepth 100000 in
set_option maxHeartbeats 8000000 in
theorem slive_any (va vt vr : Value) (l : List CV) (H : List Th) (R : List Vl) (w : World) (hl : Clss w va l) (hf : FormsAt w) (hsm : ∀ c ∈ l, SmallC c) (hn : l.length ≤ 1048576) (hH : Ths w vt H) (hs : SmallH H) (hm : H.length ≤ 1048576) (hR : Vls w vr R) :
    Calls Tryz.prog 18 #[va, .agg #[vt], vr] w (LiveBy w l H R) := by
  obtain ⟨ah, ch, rfl⟩ := hH.sl.val
  obtain ⟨al, cl, rfl⟩ := hl.val
  obtain ⟨ar, cr, rfl⟩ := hR.val
  obtain ⟨b1, hb1⟩ : ∃ b1, w.heap.size = b1 := ⟨_, rfl⟩
  obtain ⟨W1, hW1⟩ : ∃ W1, w.alloc (.cells #[.slice ah H.length ch] 25) = W1 := ⟨_, rfl⟩
  have HB1 : Hid (Below w.heap.size w W1) := hid (hW1 ▸ ext_alloc _ _)
  have hr1 : W1.heap[b1]? = some (.cells #[.slice ah H.length ch] 25 (0, 0)) := by rw [← hW1, ← hb1]; exact heap_alloc_new _ _
  have hlt1 := (Array.getElem?_eq_some_iff.1 hr1).1
  have HX : Hid (∀ u, Below W1.heap.size W1 u → u.cell? ⟨b1, 0, none⟩ = some (.slice ah H.length ch)) := hid (fun u hu => by
    have h := (hu.block _ hlt1).trans hr1
    rw [cell_of_row _ _ _ _ _ _ h]; rfl)
  have x0 := HX.out _ (Below.refl _ _)
  have HRD := hid (sread_any _ _ _ l H R W1 (hl.below HB1.out) (hf.below HB1.out) hsm hn (hH.below HB1.out) hs hm (hR.below HB1.out))
  have HH := hid hH; have HR := hid hR; have HS := hid hs
  clear hl hf hsm hn hH hs hR hr1
  go_enter Tryz.func18, Tryz.ntmps18
  go_wp2_with fail
  refine HRD.out.mono ?_
  rintro e w2 ⟨rfl, hb2⟩
  have H12 := hid hb2
  have HB2 := hid (HB1.out.trans (hb2.mono HB1.out.size))
  have x0 := HX.out _ hb2
  clear hb2
  by_cases h0 : rootsF l H R = 0
  · have H0 := hid h0
    obtain ⟨hn50, hp, hrp, hrl⟩ := roots_ok h0
    have HHL : Hid (∀ x ∈ H, x.has.length ≤ 2000000) := hid (fun x hx => by have := (HS.out x hx).2; omega)
    have HLV := hid (live_any _ _ H R w2 (HH.out.below HB2.out) (HR.out.below HB2.out) hp HHL.out hrp (by omega) hn50)
    rw [h0, show errVal 0 = .nilIface from rfl]
    clear h0 hp hrp
    go_wp2_with fail
    refine HLV.out.mono ?_
    rintro e w3 ⟨v3, T, rfl, hT, hs3, hb3⟩
    obtain ⟨bs, hTb, hD⟩ := marked_done hT
    have HB3 := hid (HB2.out.trans (hb3.mono HB2.out.size))
    have HD := hid hD
    have HTB := hid hTb
    have HS3 := hid hs3
    obtain ⟨a3, c3, rfl⟩ := hs3.val
    have HTL : Hid (T.length ≤ 51) := hid (by rw [hTb, List.length_cons, hD.len]; omega)
    have hTl := HTL.out
    clear hT hs3 hb3 hTb hD
    go_wp2_with fail
    go_loopw [9, 23] (fun v9 v23 wr => ∃ k : Nat, k ≤ T.length ∧ v23 = .int .i64 (k : Int) ∧ Hid (Out w3 wr 3 1 v9 (placesL (T.take k)).length ((placesL (T.take k)).map (.int .i64)))) (fun _ v _ => T.length - (intOf v).toNat)
    case atStart => exact ⟨0, Nat.zero_le _, rfl, hid (by rw [List.take_zero]; exact Out.nil _ _ _)⟩
    case round =>
      obtain ⟨k, hk, rfl, HO⟩ := hrel
      obtain ⟨wb, hwb⟩ : ∃ wb, wb = wr := ⟨_, rfl⟩
      subst hwb
      have hk0 : (0 : Int) ≤ (k : Int) := by omega
      by_cases hlt : k < T.length
      · have hk1 : (k : Int) < (T.length : Int) := by omega
        obtain ⟨bb, off, hab, hd0⟩ := bool_at (HS3.out.below HO.out.below) hlt
        cases hab
        have HPS := hid (places_step hlt)
        have HPL : Hid ((placesL (T.take k)).length ≤ 51) := hid (by
          have h1 := places_len T k (by omega)
          have h2 := cnt_le (T.take k)
          rw [List.length_take] at h2
          have := HTL.out
          omega)
        generalize T[k] = q at hd0 HPS
        obtain ⟨a9, c9, hv9⟩ := HO.out.sl.val
        subst hv9
        cases q with
        | false =>
          have HN : Hid (Out w3 wb 3 1 (.slice a9 (placesL (T.take k)).length c9) (placesL (T.take (k + 1))).length ((placesL (T.take (k + 1))).map (.int .i64))) := hid (by
            rw [HPS.out, if_neg (by decide), List.append_nil]; exact HO.out)
          go_wp2_with fail
          go_roundw
          case rel => exact ⟨k + 1, by omega, by simp, HN⟩
          case measure => simp [intOf]; omega
        | true =>
          go_wp2_with (at_builtin; refine wpList_append_lit w3 wb _ rfl _ _ 47 rfl 3 _ 1 8 1 Tryz.underlying47 infoI rfl (by decide) _ _ _ HO.out rfl rfl rfl (by intro u hu; simp at hu; subst hu; rfl) (by have := HPL.out; omega) (by have := HPL.out; omega) ?_)
          intro v5 w5 ho5 hg5
          have HN : Hid (Out w3 w5 3 1 v5 (placesL (T.take (k + 1))).length ((placesL (T.take (k + 1))).map (.int .i64))) := hid (by
            rw [HPS.out]; simp only [if_true, List.length_append, List.map_append]; exact ho5)
          clear ho5 hg5
          go_wp2_with fail
          go_roundw
          case rel => exact ⟨k + 1, by omega, by simp, HN⟩
          case measure => simp [intOf]; omega
      · obtain rfl : k = T.length := by omega
        have HN : Hid (Out w3 wb 3 1 u9 (placesL T).length ((placesL T).map (.int .i64))) := hid (by have := HO.out; rwa [List.take_length] at this)
        obtain ⟨a9, c9, hv9⟩ := HO.out.sl.val
        subst hv9
        clear HO hlt
        go_wp2
        go_ret2
        exact liveBy_ok H0.out HD.out (by rw [← HTB.out]; exact Out.since HB3.out HN.out)
  · have HEV : Hid (errVal (rootsF l H R) = .iface 45 (.int .i64 (rootsF l H R))) := hid (by unfold errVal; rw [if_neg h0])
    have H0 := hid h0
    rw [HEV.out]
    clear h0
    go_wp2
    go_ret2
    exact liveBy_err H0.out HEV.out HB2.out

theorem zero_int (w : World) : (zeroValue 3).run Tryz.prog w = .ok (.int .i64 0) w := by kernel_rfl
/-- the map of places in memory -/
structure PM (w : World) (bp bm : Nat) (S : List Bool) (k : Nat) : Prop where
  row : w.heap[bp]? = some (.cells #[.map (some bm)] 60 (0, 0))
  map : MapIs intKey w bm (placeM S k)
theorem mapis_lt {w : World} {b : Nat} {l : List (Int × Value)} (h : MapIs intKey w b l) : b < w.heap.size := by
  obtain ⟨es, c, h1, _⟩ := h
  exact (Array.getElem?_eq_some_iff.1 h1).1
theorem PM.later {w w' : World} {bp bm k : Nat} {S : List Bool} (h : PM w bp bm S k) (hb : Below w.heap.size w w') : PM w' bp bm S k :=
  ⟨(hb.block _ (Array.getElem?_eq_some_iff.1 h.row).1).trans h.row, map_keep intKey h.map (hb.block _ (mapis_lt h.map))⟩
theorem pm_look {w : World} {bp bm : Nat} {bs : List Bool} (h : PM w bp bm (false :: bs) (false :: bs).length) (z : Int) :
    (Instr.lookup 60 (.map (some bm)) (.int .i64 z) false).run Tryz.prog w = .ok (.int .i64 (rankOf (false :: bs) z.toNat)) w := by
  have := run_look (P := Tryz.prog) (E := intKey) Tryz.underlying60 Tryz.underlying3 h.map z (zero_int w)
  rw [show intKey.kv z = .int .i64 z from rfl, placeM_get] at this
  rw [this]
  by_cases hz : z < 0
  · rw [if_pos hz, show z.toNat = 0 from by omega, rank_zero]
  · rw [if_neg hz]

set_option maxRecDepth 100000 in
set_option maxHeartbeats 8000000 in
theorem moved_any (va : Value) (R : List Vl) (bp bm : Nat) (bs : List Bool) (w : World) (hR : Vls w va R) (hp : PM w bp bm (false :: bs) (false :: bs).length) (hn : R.length ≤ 2000000) :
    Calls Tryz.prog 28 #[va, .pointer (some ⟨bp, 0, none⟩)] w fun e w' => ∃ v, e = .returned v ∧ Out w w' 37 2 v R.length ((R.map (movedV (false :: bs))).flatMap Vl.cells) := by
  obtain ⟨ar, cr, rfl⟩ := hR.val
  have HR := hid hR; have HP := hid hp
  clear hR hp
  go_enter Tryz.func28, Tryz.ntmps28
  go_wp2_with fail
  go_loopw [4, 9] (fun v4 v9 wr => ∃ k : Nat, k ≤ R.length ∧ v9 = .int .i64 (k : Int) ∧ Hid (Out w wr 37 2 v4 k (((R.take k).map (movedV (false :: bs))).flatMap Vl.cells))) (fun _ v _ => R.length - (intOf v).toNat)
  case atStart => exact ⟨0, Nat.zero_le _, rfl, hid (by rw [List.take_zero]; exact Out.nil _ _ _)⟩
  case round =>
    obtain ⟨k, hk, rfl, HO⟩ := hrel
    obtain ⟨wb, hwb⟩ : ∃ wb, wb = wr := ⟨_, rfl⟩
    subst hwb
    have hk0 : (0 : Int) ≤ (k : Int) := by omega
    by_cases hlt : k < R.length
    · have hk1 : (k : Int) < (R.length : Int) := by omega
      obtain ⟨bb, off, hab, hd0, hd1⟩ := vl_at (HR.out.below HO.out.below) hlt
      cases hab
      have HTS : Hid (((R.take (k + 1)).map (movedV (false :: bs))).flatMap Vl.cells = ((R.take k).map (movedV (false :: bs))).flatMap Vl.cells ++ Vl.cells (movedV (false :: bs) R[k])) := hid (by
        rw [List.take_succ_eq_append_getElem hlt, List.map_append, List.flatMap_append]; simp)
      generalize R[k] = x at hd0 hd1 HTS
      obtain ⟨vk, vn⟩ := x
      simp only at hd0 hd1
      obtain ⟨a4, c4, hv4⟩ := HO.out.sl.val
      subst hv4
      obtain ⟨bv, hbv⟩ : ∃ bv, wb.heap.size = bv := ⟨_, rfl⟩
      obtain ⟨W3, hW3⟩ : ∃ W3, wb.alloc (.cells #[.int .i64 vk, .int .i64 vn] 37) = W3 := ⟨_, rfl⟩
      have HBa : Hid (Below wb.heap.size wb W3) := hid (hW3 ▸ ext_alloc _ _)
      have HO3 := hid (HO.out.later HBa.out)
      have hr3 : W3.heap[bv]? = some (.cells #[.int .i64 vk, .int .i64 vn] 37 (0, 0)) := by rw [← hW3, ← hbv]; exact heap_alloc_new _ _
      have x0 : W3.cell? ⟨bv, 0, none⟩ = some (.int .i64 vk) := by rw [cell_of_row _ _ _ _ _ _ hr3]; rfl
      have x1 : W3.cell? ⟨bv, 1, none⟩ = some (.int .i64 vn) := by rw [cell_of_row _ _ _ _ _ _ hr3]; rfl
      have f1 : W3.frozen? ⟨bv, 1, none⟩ = false := frozen_of_row _ _ _ _ _ hr3
      have hp3 := HP.out.later HO3.out.below
      have xp : W3.cell? ⟨bp, 0, none⟩ = some (.map (some bm)) := by rw [cell_of_row _ _ _ _ _ _ hp3.row]; rfl
      have hlk := pm_look hp3 vn
      have HOW : Hid (w.heap.size ≤ bv) := hid (by have := HO.out.below.size; omega)
      by_cases h3 : vk = 3
      · subst h3
        obtain ⟨W4, hW4⟩ : ∃ W4, W3.setCell ⟨bv, 1, none⟩ (.int .i64 (rankOf (false :: bs) vn.toNat)) = W4 := ⟨_, rfl⟩
        have HCV : Hid (Vl.cells (movedV (false :: bs) ⟨3, vn⟩) = [.int .i64 3, .int .i64 (rankOf (false :: bs) vn.toNat)]) := hid (by unfold movedV; simp [Vl.cells])
        have hr4 : W4.heap[bv]? = some (.cells #[.int .i64 3, .int .i64 (rankOf (false :: bs) vn.toNat)] 37 (0, 0)) := by rw [← hW4]; exact setCell_row hr3
        have y0 : W4.cell? ⟨bv, 0, none⟩ = some (.int .i64 3) := by rw [cell_of_row _ _ _ _ _ _ hr4]; rfl
        have y1 : W4.cell? ⟨bv, 1, none⟩ = some (.int .i64 (rankOf (false :: bs) vn.toNat)) := by rw [cell_of_row _ _ _ _ _ _ hr4]; rfl
        have HO4 : Hid (Out w W4 37 2 (.slice a4 k c4) k (((R.take k).map (movedV (false :: bs))).flatMap Vl.cells)) := hid (by
          refine ⟨HO3.out.own.kept (hW4 ▸ grown_set W3 ⟨bv, 1, none⟩ _) ?_, hW4 ▸ HO3.out.below.setCell HOW.out _⟩
          cases hv : (Value.slice a4 k c4).ownBlock with
          | none => exact .inl rfl
          | some q => exact .inr (fun he => by
              have h1 := (HO.out.own.lt q hv).2
              have h2 := Option.some.inj he
              simp only at h2
              omega))
        generalize rankOf (false :: bs) vn.toNat = rk at hlk hW4 HCV hr4 y1
        clear hr3 hr4 hp3 HO3
        go_wp2_with (at_builtin; refine wpList_append_lit w W4 _ rfl _ _ 26 rfl 37 _ 2 16 1 Tryz.underlying26 infoVl rfl (by decide) _ _ _ HO4.out rfl rfl rfl (by simp [Value.oneCell']) (by omega) (by omega) ?_)
        intro v5 w5 ho5 hg5
        have HN : Hid (Out w w5 37 2 v5 (k + 1) (((R.take (k + 1)).map (movedV (false :: bs))).flatMap Vl.cells)) := hid (by
          rw [HTS.out, HCV.out]; rw [← List.map_take] at ho5; exact ho5)
        clear ho5 hg5
        go_wp2_with fail
        go_roundw
        case rel => exact ⟨k + 1, by omega, by simp, HN⟩
        case measure => simp [intOf]; omega
      · have HCV : Hid (Vl.cells (movedV (false :: bs) ⟨vk, vn⟩) = [.int .i64 vk, .int .i64 vn]) := hid (by unfold movedV; rw [if_neg h3]; rfl)
        have h4 : (vk == 3) = false := by simpa using h3
        clear hr3 hp3 hlk xp f1
        go_wp2_with (at_builtin; refine wpList_append_lit w W3 _ rfl _ _ 26 rfl 37 _ 2 16 1 Tryz.underlying26 infoVl rfl (by decide) _ _ _ HO3.out rfl rfl rfl (by simp [Value.oneCell']) (by omega) (by omega) ?_)
        intro v5 w5 ho5 hg5
        have HN : Hid (Out w w5 37 2 v5 (k + 1) (((R.take (k + 1)).map (movedV (false :: bs))).flatMap Vl.cells)) := hid (by
          rw [HTS.out, HCV.out]; rw [← List.map_take] at ho5; exact ho5)
        clear ho5 hg5
        go_wp2_with fail
        go_roundw
        case rel => exact ⟨k + 1, by omega, by simp, HN⟩
        case measure => simp [intOf]; omega
    · obtain rfl : k = R.length := by omega
      have HN : Hid (Out w wb 37 2 u4 R.length ((R.map (movedV (false :: bs))).flatMap Vl.cells)) := hid (by have := HO.out; rwa [List.take_length] at this)
      obtain ⟨a9, c9, hv9⟩ := HO.out.sl.val
      subst hv9
      clear HO hlt
      go_wp2
      go_ret
      exact ⟨_, rfl, HN.out⟩
end Go.Proofs.YtkfkdbmgmifopaaGreatDoor.worlds

/- Heaps swept: sweep.Sweep. Condition: the texts and lists are not great. -/
set_option linter.unusedSimpArgs false
set_option linter.unusedVariables false
namespace Go.Proofs.YtkfkdbmgmifopaaGreatDoor.worlds
open Go.RowKit Go.Proofs.YtkfkdbmgmifopaaGreatDoor.lib Go.Proofs.YtkfkdbmgmifopaaGreatDoor.maps Go.Proofs.YtkfkdbmgmifopaaGreatDoor.classes Go.Proofs.YtkfkdbmgmifopaaGreatDoor.errs Go.Proofs.YtkfkdbmgmifopaaGreatDoor.descs Go.Proofs.YtkfkdbmgmifopaaGreatDoor.names Go.Proofs.YtkfkdbmgmifopaaGreatDoor.grow Go.Proofs.YtkfkdbmgmifopaaGreatDoor.ins

theorem map_type : (60 : TypeId) ≠ 25 := by decide
theorem thing_map : (35 : TypeId) ≠ 60 := by decide
/-- the map of places behind an append to own things -/
theorem pm_grown {w1 w w' : World} {bp bm k n : Nat} {S : List Bool} {v : Value} {xs : List Value} (h : PM w bp bm S k) (ho : Out w1 w 35 2 v n xs) (hg : w.grownBy w' v.ownBlock) : PM w' bp bm S k := by
  refine ⟨row_grown ho h.row thing_map hg, map_keep intKey h.map (hg.block _ (mapis_lt h.map) fun he => ?_)⟩
  obtain ⟨es, c, h1, _⟩ := h.map
  rcases ho.own.2 with ⟨rfl, _⟩ | ⟨g, cap, cur, rfl, _, hgr, _⟩
  · cases he
  · simp only [Value.ownBlock, Option.some.injEq] at he
    subst he
    rw [h1] at hgr
    cases hgr
theorem pm_put {w : World} {bp bm k b : Nat} {S : List Bool} {c : Array Value} {x : Value} (h : PM w bp bm S k) (hb : w.heap[b]? = some (.cells c 25 (0, 0))) : PM (w.setCell ⟨b, 0, none⟩ x) bp bm S k := by
  refine ⟨?_, ?_⟩
  · rw [setCell_other fun e => ?_]
    · exact h.row
    · subst e
      rw [h.row] at hb
      simp only [Option.some.injEq, Obj.cells.injEq] at hb
      exact map_type hb.2.1
  · refine map_keep intKey h.map (setCell_other fun e => ?_)
    subst e
    obtain ⟨es, c, h1, _⟩ := h.map
    rw [h1] at hb
    cases hb
/-- a slice of values behind an update of a map -/
theorem sl_map {w w' : World} {bm n s : Nat} {v : Value} {xs : List Value} {l : List (Int × Value)} (h : Sl w v n s xs) (hm : MapIs intKey w bm l) (hg : w.grownBy w' (some bm)) : Sl w' v n s xs := by
  obtain ⟨es, cl, h1, _⟩ := hm
  obtain ⟨hl, a, c, rfl, hc, h⟩ := h
  refine ⟨hl, a, c, rfl, hc, ?_⟩
  rcases h with h | ⟨b, off, rfl, h⟩
  · exact .inl h
  · refine .inr ⟨b, off, rfl, fun j u hj => hg.cell (h j u hj) fun e => ?_⟩
    have := Option.some.inj e
    simp only at this
    subst this
    have h2 := h j u hj
    unfold World.cell? at h2
    rw [h1] at h2
    simp at h2
theorem row_map {w w' : World} {bm b : Nat} {c : Array Value} {t : TypeId} {l : List (Int × Value)} (h : w.heap[b]? = some (.cells c t (0, 0))) (hm : MapIs intKey w bm l) (hg : w.grownBy w' (some bm)) : w'.heap[b]? = some (.cells c t (0, 0)) := by
  obtain ⟨es, cl, h1, _⟩ := hm
  rw [hg.block b (Array.getElem?_eq_some_iff.1 h).1 fun e => ?_]
  · exact h
  · have := Option.some.inj e
    subst this
    rw [h1] at h
    cases h
theorem run_len_pm {w : World} {bm : Nat} {l : List (Int × Value)} (ty : TypeId) (h : MapIs intKey w bm l) : (Builtin.len_ #[60] ty #[.map (some bm)]).run Tryz.prog w = .ok (.int .i64 (l.length : Int)) w := by
  obtain ⟨es, cl, h1, h2⟩ := h
  have hs : es.size = l.length := by have := congrArg List.length h2; simpa using this
  simp [Builtin.len_, run_underlying Tryz.underlying60, MapKept.run_getObj_map h1, goInt, hs]

/-- the first half: the places are gathered -/
structure SW (w1 w : World) (b2 bp bm k : Nat) (vT : Value) (T : List Bool) : Prop where
  below : Below w1.heap.size w1 w
  r2 : w.heap[b2]? = some (.cells #[.slice none 0 0] 25 (0, 0))
  pm : PM w bp bm T k
  sl : Sl w vT T.length 1 (T.map .bool)
  le : w1.heap.size ≤ bm
theorem SW.yes {w1 w : World} {b2 bp bm k : Nat} {vT : Value} {T : List Bool} (h : SW w1 w b2 bp bm k vT T) (hk : k < T.length) (hb : T[k] = true) :
    ∃ w', (Instr.mapUpdate 60 (.map (some bm)) (.int .i64 (k : Int)) (.int .i64 ((cnt1 (T.take k) : Int) + 1))).run Tryz.prog w = .ok () w' ∧ SW w1 w' b2 bp bm (k + 1) vT T := by
  obtain ⟨w', h1, h2, h3⟩ := run_update (P := Tryz.prog) (E := intKey) Tryz.underlying60 Tryz.underlying3 h.pm.map (k : Int) (.int .i64 ((cnt1 (T.take k) : Int) + 1))
  refine ⟨w', h1, ⟨h.below.grown h3 h.below.size (fun q hq => by have := Option.some.inj hq; have := h.le; omega), row_map h.r2 h.pm.map h3, ⟨row_map h.pm.row h.pm.map h3, by rw [placeM_yes hk hb]; exact h2⟩, sl_map h.sl h.pm.map h3, h.le⟩⟩
theorem SW.no {w1 w : World} {b2 bp bm k : Nat} {vT : Value} {T : List Bool} (h : SW w1 w b2 bp bm k vT T) (hk : k < T.length) (hb : ¬ T[k] = true) : SW w1 w b2 bp bm (k + 1) vT T :=
  ⟨h.below, h.r2, ⟨h.pm.row, by rw [placeM_no hk hb]; exact h.pm.map⟩, h.sl, h.le⟩

theorem results_cell_three {P : Program} {fn : Func} {p q r : Tmp} {ty : TypeId} (h : fn.results = #[.cell p ty, .tmp q, .tmp r]) (tmps : Array Value) (w : World) (g : Nat) (cs : Array Value) (t : TypeId) (fr : Nat × Nat) (d : TypeDesc)
    (hp : tmps.getD p undef = .pointer (some ⟨g, 0, none⟩)) (hg : w.heap[g]? = some (.cells cs t fr)) (hu : P.underlying ty = some d) (hd : (match d with | .struct _ | .array _ _ => true | _ => false) = true) (hi : (P.info? ty).map (·.size) = some cs.size) :
    (results fn tmps).run P w = .ok (.tuple #[.agg cs, tmps.getD q undef, tmps.getD r undef]) w := by
  have hp' : tmps[p]?.getD undef = .pointer (some ⟨g, 0, none⟩) := by simpa using hp
  simp [results, h, hp', asAddr, run_loadVar_row w g t ty cs fr d hg hu hd hi]

/-- what sweep.Sweep answers -/
def SweepBy (w : World) (l : List CV) (H : List Th) (R : List Vl) (e : Ending) (w' : World) : Prop :=
  if rootsF l H R = 0 then ∃ v vr L bs, e = .returned (.tuple #[.agg #[v], vr, .nilIface]) ∧ Done H R bs ∧ OwnTh w w' v L ∧ L.map bare = sweptH (false :: bs) H ∧ Out w w' 37 2 vr R.length ((R.map (movedV (false :: bs))).flatMap Vl.cells)
  else e = .returned (.tuple #[.agg #[.slice none 0 0], .slice none 0 0, errVal (rootsF l H R)]) ∧ Below w.heap.size w w'
theorem sweepBy_ok {w w' : World} {l : List CV} {H L : List Th} {R : List Vl} {v vr : Value} {bs : List Bool} (h0 : rootsF l H R = 0) (hd : Done H R bs) (ho : OwnTh w w' v L) (hL : L.map bare = sweptH (false :: bs) H)
    (hr : Out w w' 37 2 vr R.length ((R.map (movedV (false :: bs))).flatMap Vl.cells)) : SweepBy w l H R (.returned (.tuple #[.agg #[v], vr, .nilIface])) w' := by
  unfold SweepBy; rw [if_pos h0]; exact ⟨v, vr, L, bs, rfl, hd, ho, hL, hr⟩
theorem sweepBy_err {w w' : World} {l : List CV} {H : List Th} {R : List Vl} {v : Value} (h0 : ¬ rootsF l H R = 0) (hv : errVal (rootsF l H R) = v) (hb : Below w.heap.size w w') : SweepBy w l H R (.returned (.tuple #[.agg #[.slice none 0 0], .slice none 0 0, v])) w' := by
  unfold SweepBy; rw [if_neg h0, hv]; exact ⟨rfl, hb⟩
theorem row_cell2 {w' : World} {bx : Nat} {s0 s1 : Value} (h : w'.heap[bx]? = some (.cells #[s0, s1] 35 (0, 0))) : w'.cell? ⟨bx, 0, none⟩ = some s0 ∧ w'.cell? ⟨bx, 1, none⟩ = some s1 :=
  ⟨by rw [cell_of_row _ _ _ _ _ _ h]; rfl, by rw [cell_of_row _ _ _ _ _ _ h]; rfl⟩

set_option maxRecDepth 100000 in
set_option maxHeartbeats 16000000 in
theorem sweep_any (va vt vr : Value) (l : List CV) (H : List Th) (R : List Vl) (w : World) (hl : Clss w va l) (hf : FormsAt w) (hsm : ∀ c ∈ l, SmallC c) (hn : l.length ≤ 1048576) (hH : Ths w vt H) (hs : SmallH H) (hm : H.length ≤ 1048576) (hR : Vls w vr R) :
    Calls Tryz.prog 11 #[va, .agg #[vt], vr] w (SweepBy w l H R) := by
  obtain ⟨ah, ch, rfl⟩ := hH.sl.val
  obtain ⟨al, cl, rfl⟩ := hl.val
  obtain ⟨ar, cr, rfl⟩ := hR.val
  obtain ⟨b1, hb1⟩ : ∃ b1, w.heap.size = b1 := ⟨_, rfl⟩
  obtain ⟨w1, hw1⟩ : ∃ w1, w.alloc (.cells #[.slice ah H.length ch] 25) = w1 := ⟨_, rfl⟩
  have HB1 : Hid (Below w.heap.size w w1) := hid (hw1 ▸ ext_alloc _ _)
  have hr1 : w1.heap[b1]? = some (.cells #[.slice ah H.length ch] 25 (0, 0)) := by rw [← hw1, ← hb1]; exact heap_alloc_new _ _
  have hlt1 := (Array.getElem?_eq_some_iff.1 hr1).1
  have HX : Hid (∀ u, Below w1.heap.size w1 u → u.cell? ⟨b1, 0, none⟩ = some (.slice ah H.length ch)) := hid (fun u hu => by
    have h := (hu.block _ hlt1).trans hr1
    rw [cell_of_row _ _ _ _ _ _ h]; rfl)
  obtain ⟨b2, hb2⟩ : ∃ b2, w1.heap.size = b2 := ⟨_, rfl⟩
  obtain ⟨W2, hW2⟩ : ∃ W2, w1.alloc (.cells #[.slice none 0 0] 25) = W2 := ⟨_, rfl⟩
  have HB12 : Hid (Below w1.heap.size w1 W2) := hid (hW2 ▸ ext_alloc _ _)
  have HR2 : Hid (W2.heap[b2]? = some (.cells #[.slice none 0 0] 25 (0, 0))) := hid (by rw [← hW2, ← hb2]; exact heap_alloc_new _ _)
  have HB2 := hid (HB1.out.trans (HB12.out.mono HB1.out.size))
  have x0 := HX.out _ HB12.out
  have HRD := hid (sread_any _ _ _ l H R W2 (hl.below HB2.out) (hf.below HB2.out) hsm hn (hH.below HB2.out) hs hm (hR.below HB2.out))
  have HH := hid hH; have HR := hid hR; have HS := hid hs
  have hmm := @run_makeMap Tryz.prog
  have hmf : ∀ (fn : Fn) (first cap : Array Value) (w : World), (Instr.makeFunc fn first cap).run Tryz.prog w = .ok (.func fn first cap) w := fun _ _ _ _ => rfl
  have HB2L : Hid (w1.heap.size ≤ b2) := hid (by omega)
  clear hl hf hsm hn hH hs hR hr1
  go_enter Tryz.func11, Tryz.ntmps11
  go_wp2_with fail
  refine HRD.out.mono ?_
  rintro e w3 ⟨rfl, hb3⟩
  have H23 := hid hb3
  have HB13 := hid (HB12.out.trans (hb3.mono HB12.out.size))
  have HB3 := hid (HB2.out.trans (hb3.mono HB2.out.size))
  have HR3 : Hid (w3.heap[b2]? = some (.cells #[.slice none 0 0] 25 (0, 0))) := hid ((hb3.block _ (Array.getElem?_eq_some_iff.1 HR2.out).1).trans HR2.out)
  have x0 := HX.out _ HB13.out
  clear hb3
  by_cases h0 : rootsF l H R = 0
  · have H0 := hid h0
    obtain ⟨hn50, hp, hrp, hrl⟩ := roots_ok h0
    have HHL : Hid (∀ x ∈ H, x.has.length ≤ 2000000) := hid (fun x hx => by have := (HS.out x hx).2; omega)
    have HRL : Hid (R.length ≤ 50) := hid hrl
    obtain ⟨bm, hbm⟩ : ∃ bm, w3.heap.size = bm := ⟨_, rfl⟩
    obtain ⟨M3, hM3⟩ : ∃ M3, w3.alloc (.map #[] 0) = M3 := ⟨_, rfl⟩
    obtain ⟨bp, hbp⟩ : ∃ bp, M3.heap.size = bp := ⟨_, rfl⟩
    obtain ⟨M4, hM4⟩ : ∃ M4, M3.alloc (.cells #[.map (some bm)] 60) = M4 := ⟨_, rfl⟩
    have HM34 : Hid (Below w3.heap.size w3 M4) := hid (by rw [← hM4, ← hM3]; exact (ext_alloc _ _).trans ((ext_alloc _ _).mono (ext_alloc _ _).size))
    have HPM : Hid (∀ S, PM M4 bp bm S 0) := hid (fun S => by
      refine ⟨by rw [← hM4, ← hbp]; exact heap_alloc_new _ _, ⟨#[], 0, ?_, rfl⟩⟩
      rw [← hM4]
      refine ((ext_alloc M3 _).block bm ?_).trans ?_
      · rw [← hbm, ← hM3, World.size_alloc]; omega
      · rw [← hM3, ← hbm]; exact heap_alloc_new _ _)
    have HM4 := hid (HB3.out.trans (HM34.out.mono HB3.out.size))
    have HM14 := hid (HB13.out.trans (HM34.out.mono HB13.out.size))
    have HBM : Hid (w1.heap.size ≤ bm) := hid (by have := HB13.out.size; omega)
    have HR4 : Hid (M4.heap[b2]? = some (.cells #[.slice none 0 0] 25 (0, 0))) := hid ((HM34.out.block _ (Array.getElem?_eq_some_iff.1 HR3.out).1).trans HR3.out)
    have HLV := hid (live_any _ _ H R M4 (HH.out.below HM4.out) (HR.out.below HM4.out) hp HHL.out hrp (by omega) hn50)
    have hmm3 := hmm 60 w3
    rw [hbm, hM3] at hmm3
    have x4 := HX.out _ HM14.out
    rw [h0, show errVal 0 = .nilIface from rfl]
    clear h0 hp hrp hmm
    go_wp2_with fail
    refine HLV.out.mono ?_
    rintro e w5 ⟨v3, T, rfl, hT, hs3, hb5⟩
    obtain ⟨bs, hTb, hD⟩ := marked_done hT
    have HDN := hid hD
    have HTB := hid hTb
    have HTL : Hid (T.length ≤ 51) := hid (by rw [hTb, List.length_cons, hD.len]; omega)
    have HBL : Hid (bs.length = H.length) := hid hD.len
    have hTl := HTL.out
    have HSW : Hid (SW w1 w5 b2 bp bm 0 v3 T) := hid ⟨HM14.out.trans (hb5.mono HM14.out.size), (hb5.block _ (Array.getElem?_eq_some_iff.1 HR4.out).1).trans HR4.out, (HPM.out T).later hb5, hs3, HBM.out⟩
    obtain ⟨a3, c3, rfl⟩ := hs3.val
    clear hT hs3 hb5 hTb hD x4 hmm3 hbm hM3 hbp hM4
    go_wp2_with fail
    go_loopw [30] (fun v30 wr => ∃ k : Nat, k ≤ T.length ∧ v30 = .int .i64 (k : Int) ∧ Hid (SW w1 wr b2 bp bm k (.slice a3 T.length c3) T)) (fun v _ => T.length - (intOf v).toNat)
    case atStart => exact ⟨0, Nat.zero_le _, rfl, HSW⟩
    case round =>
      obtain ⟨k, hk, rfl, HO⟩ := hrel
      clear HSW
      obtain ⟨wb, hwb⟩ : ∃ wb, wb = wr := ⟨_, rfl⟩
      subst hwb
      have hk0 : (0 : Int) ≤ (k : Int) := by omega
      by_cases hlt : k < T.length
      · have hk1 : (k : Int) < (T.length : Int) := by omega
        obtain ⟨bb, off, hab, hd0⟩ := bool_at HO.out.sl hlt
        cases hab
        cases hq : T[k] with
        | false =>
          rw [hq] at hd0
          have HN := hid (HO.out.no hlt (by rw [hq]; decide))
          clear hq
          go_wp2_with fail
          go_roundw
          case rel => exact ⟨k + 1, by omega, by simp, HN⟩
          case measure => simp [intOf]; omega
        | true =>
          rw [hq] at hd0
          obtain ⟨w6, hrun, hsw⟩ := HO.out.yes hlt hq
          have HN := hid hsw
          have hln := fun ty => run_len_pm ty HO.out.pm.map
          rw [placeM_len (by omega)] at hln
          have hcl : cnt1 (T.take k) ≤ 51 := by
            have h2 := cnt_le (T.take k)
            rw [List.length_take] at h2
            omega
          have xp : wb.cell? ⟨bp, 0, none⟩ = some (.map (some bm)) := by rw [cell_of_row _ _ _ _ _ _ HO.out.pm.row]; rfl
          generalize cnt1 (T.take k) = cn at hrun hln hcl
          clear hq hsw
          go_wp2_with fail
          go_roundw
          case rel => exact ⟨k + 1, by omega, by simp, HN⟩
          case measure => simp [intOf]; omega
      · obtain rfl : k = T.length := by omega
        have HPMb : Hid (PM wb bp bm (false :: bs) (false :: bs).length) := hid (by have := HO.out.pm; rwa [HTB.out] at this)
        have HBLb := hid HO.out.below
        have HR2b := hid HO.out.r2
        clear hlt HO HTB
        obtain ⟨b3, hb3⟩ : ∃ b3, wb.heap.size = b3 := ⟨_, rfl⟩
        obtain ⟨W7, hW7⟩ : ∃ W7, wb.alloc (.cells #[.slice none 0 0] 25) = W7 := ⟨_, rfl⟩
        have HB7 : Hid (Below wb.heap.size wb W7) := hid (hW7 ▸ ext_alloc _ _)
        have HB17 := hid (HBLb.out.trans (HB7.out.mono HBLb.out.size))
        have HT0 : Hid (TW w1 W7 b2 b3 (.slice none 0 0) []) := hid (by
          have h2 := (Array.getElem?_eq_some_iff.1 HR2b.out).1
          refine ⟨(OwnTh.nil w1).later HB17.out, by rw [← hW7, ← hb3]; exact heap_alloc_new _ _, (HB7.out.block _ h2).trans HR2b.out, HB2L.out, ?_, ?_⟩
          · have := HBLb.out.size; omega
          · omega)
        have HP0 := hid (HPMb.out.later HB7.out)
        have x7 := HX.out _ HB17.out
        have x8 := HX.out _ HBLb.out
        go_wp2_with fail
        go_loopw [46] (fun v46 wr => ∃ (k : Nat) (v : Value) (L : List Th), k ≤ H.length ∧ v46 = .int .i64 (k : Int) ∧ Hid (TW w1 wr b2 b3 v L) ∧ Hid (PM wr bp bm (false :: bs) (false :: bs).length) ∧ Hid (L.map bare = (keepB (bs.take k) (H.take k)).map (bareT (false :: bs)))) (fun v _ => H.length - (intOf v).toNat)
        case atStart => exact ⟨0, _, [], Nat.zero_le _, rfl, HT0, HP0, hid (by rw [List.take_zero, List.take_zero]; rfl)⟩
        case round =>
          obtain ⟨k, v, L, hk, rfl, HT, HP, HL⟩ := hrel
          clear HT0 HP0 x7 x8
          obtain ⟨wb, hwb⟩ : ∃ wb, wb = wr := ⟨_, rfl⟩
          subst hwb
          have hk0 : (0 : Int) ≤ (k : Int) := by omega
          obtain ⟨n, hnn⟩ : ∃ n, L.length = n := ⟨_, rfl⟩
          have HNN := hid hnn
          have HNL : Hid (n ≤ 50) := hid (by
            have h1 := congrArg List.length HL.out
            rw [List.length_map, List.length_map] at h1
            have h2 := keep_le (bs.take k) (H.take k)
            rw [List.length_take] at h2
            omega)
          obtain ⟨a3, c3, hv3⟩ := HT.out.own.own.sl.val
          rw [hnn] at hv3
          subst hv3
          clear hnn
          by_cases hlt : k < H.length
          · have hk1 : (k : Int) < (H.length : Int) := by omega
            obtain ⟨hb, ho, hab, he0, he1⟩ := th_at (HH.out.below (HB1.out.trans (HT.out.own.own.below.mono HB1.out.size))) hlt
            subst hab
            have HVX0 := hid (HH.out.at_ _ (List.getElem_mem hlt))
            have HSX := hid (HS.out _ (List.getElem_mem hlt)).2
            have hltb : k < bs.length := by have := HBL.out; omega
            have HKS := hid (keep_step hltb hlt)
            generalize H[k] = x at he0 he1 HVX0 HSX HKS
            obtain ⟨ty, vh, has⟩ := x
            simp only at he0 he1 HSX
            obtain ⟨ax, cx, hvh⟩ := HVX0.out.val
            simp only at hvh
            subst hvh
            obtain ⟨bx, hbx⟩ : ∃ bx, wb.heap.size = bx := ⟨_, rfl⟩
            obtain ⟨W5, hW5⟩ : ∃ W5, wb.alloc (.cells #[.string ty, .slice ax has.length cx] 35) = W5 := ⟨_, rfl⟩
            have HBx : Hid (Below wb.heap.size wb W5) := hid (hW5 ▸ ext_alloc _ _)
            have HRX : Hid (W5.heap[bx]? = some (.cells #[.string ty, .slice ax has.length cx] 35 (0, 0))) := hid (by rw [← hW5, ← hbx]; exact heap_alloc_new _ _)
            have HT5 := hid (HT.out.later HBx.out)
            have HP5 := hid (HP.out.later HBx.out)
            have xp : W5.cell? ⟨bp, 0, none⟩ = some (.map (some bm)) := by rw [cell_of_row _ _ _ _ _ _ HP5.out.row]; rfl
            have hlk := pm_look HP5.out ((k : Int) + 1)
            rw [show ((k : Int) + 1).toNat = k + 1 from by omega] at hlk
            cases hq : bs[k] with
            | false =>
              rw [rank_no (by rw [List.getElem?_eq_getElem hltb, hq]; simp)] at hlk
              have HLN : Hid (L.map bare = (keepB (bs.take (k + 1)) (H.take (k + 1))).map (bareT (false :: bs))) := hid (by
                rw [HKS.out, hq, if_neg (by decide), List.append_nil]; exact HL.out)
              clear hq
              go_wp2_with fail
              go_roundw
              case rel => exact ⟨k + 1, _, _, by omega, by simp, HT5, HP5, HLN⟩
              case measure => simp [intOf]; omega
            | true =>
              rw [rank_yes (by rw [List.getElem?_eq_getElem hltb, hq])] at hlk
              have HLN : Hid (∀ v' : Value, (L ++ [(⟨ty, v', has.map (movedV (false :: bs))⟩ : Th)]).map bare = (keepB (bs.take (k + 1)) (H.take (k + 1))).map (bareT (false :: bs))) := hid (fun v' => by
                rw [HKS.out, hq, if_pos rfl, List.map_append, List.map_append, HL.out]; rfl)
              have hpos : (0 : Int) < (cnt1 (bs.take k) : Int) + 1 := by omega
              generalize (cnt1 (bs.take k) : Int) + 1 = rk at hlk hpos
              clear hq
              have HTD := hid (HT5.out.later (Below.refl _ _).drew)
              have HPD := hid (HP5.out.later (Below.refl _ _).drew)
              have HRXD : Hid (W5.drew.heap[bx]? = some (.cells #[.string ty, .slice ax has.length cx] 35 (0, 0))) := hid HRX.out
              obtain ⟨WD, hWD⟩ : ∃ WD, W5.drew = WD := ⟨_, rfl⟩
              rw [hWD] at HTD HPD HRXD
              have HDA : Hid (∀ u, Below WD.heap.size WD u → u.cell? ⟨b3, 0, none⟩ = some (.slice a3 n c3) ∧ u.cell? ⟨bx, 0, none⟩ = some (.string ty) ∧ u.cell? ⟨bx, 1, none⟩ = some (.slice ax has.length cx)) := hid (fun u hu => by
                have h3 := (HTD.out.later hu).r3
                have hx := (hu.block _ (Array.getElem?_eq_some_iff.1 HRXD.out).1).trans HRXD.out
                refine ⟨by rw [cell_of_row _ _ _ _ _ _ h3]; rfl, row_cell2 hx⟩)
              have HD := hid (HDA.out WD (Below.refl _ _))
              obtain ⟨x5, x6⟩ := row_cell2 HRX.out
              have HVX2 : Hid (Vls w (.slice ax has.length cx) has) := hid HVX0.out
              have HVX := hid (HVX2.out.below (HB1.out.trans (HTD.out.own.own.below.mono HB1.out.size)))
              have HOB : Hid (∀ g, (Value.slice a3 n c3).ownBlock = some g → g < bx) := hid (fun g hg => by have := (HT.out.own.own.own.lt g hg).2; omega)
              clear HVX0
              go_wp2_with fail
              refine wp_region_s (fun u => u.cell? ⟨b3, 0, none⟩ = some (.slice a3 n c3) ∧ u.cell? ⟨bx, 0, none⟩ = some (.string ty) ∧ u.cell? ⟨bx, 1, none⟩ = some (.slice ax has.length cx)) 12 (by kernel_rfl) ?_
              show Go.Proofs.YtkfkdbmgmifopaaGreatDoor.grow.wpAnyS _ _ _ _ _ _ _ _ _ W5.drew
              rw [hWD]
              refine s_calc 0 _ _ rfl (by kernel_rfl) (by kernel_rfl) (by kernel_rfl) (by kernel_rfl) (by decide) rfl (fun c a' w' h => ⟨(putS_defers _ _ _).symm.trans h.1, h.2⟩) (fun _ => HD.out) (fun u => by go_simp; rfl) ?_
              simp only [List.getElem_toArray, List.getElem_cons_zero, List.getElem_cons_succ, Act.put, List.setIfInBounds_toArray, List.set_cons_zero, List.set_cons_succ]
              refine s_take 1 _ _ rfl (by kernel_rfl) (by kernel_rfl) (by kernel_rfl) (by kernel_rfl) (by kernel_rfl) (by decide) rfl (fun c a' w' h => ⟨(putS_defers _ _ _).symm.trans h.1, h.2⟩) (fun _ => HD.out) (fun u hu => by obtain ⟨r0, r1, r2⟩ := hu; go_simp; rfl) ?_
              simp only [List.getElem_toArray, List.getElem_cons_zero, List.getElem_cons_succ, Act.put, List.setIfInBounds_toArray, List.set_cons_zero, List.set_cons_succ]
              refine s_calc 2 _ _ rfl (by kernel_rfl) (by kernel_rfl) (by kernel_rfl) (by kernel_rfl) (by decide) rfl (fun c a' w' h => ⟨(putS_defers _ _ _).symm.trans h.1, h.2⟩) (fun _ => HD.out) (fun u => by go_simp; rfl) ?_
              simp only [List.getElem_toArray, List.getElem_cons_zero, List.getElem_cons_succ, Act.put, List.setIfInBounds_toArray, List.set_cons_zero, List.set_cons_succ]
              refine s_take 3 _ _ rfl (by kernel_rfl) (by kernel_rfl) (by kernel_rfl) (by kernel_rfl) (by kernel_rfl) (by decide) rfl (fun c a' w' h => ⟨(putS_defers _ _ _).symm.trans h.1, h.2⟩) (fun _ => HD.out) (fun u hu => by obtain ⟨r0, r1, r2⟩ := hu; go_simp; rfl) ?_
              simp only [List.getElem_toArray, List.getElem_cons_zero, List.getElem_cons_succ, Act.put, List.setIfInBounds_toArray, List.set_cons_zero, List.set_cons_succ]
              refine s_calc 4 _ _ rfl (by kernel_rfl) (by kernel_rfl) (by kernel_rfl) (by kernel_rfl) (by decide) rfl (fun c a' w' h => ⟨(putS_defers _ _ _).symm.trans h.1, h.2⟩) (fun _ => HD.out) (fun u => by go_simp; rfl) ?_
              simp only [List.getElem_toArray, List.getElem_cons_zero, List.getElem_cons_succ, Act.put, List.setIfInBounds_toArray, List.set_cons_zero, List.set_cons_succ]
              refine s_calc 5 _ _ rfl (by kernel_rfl) (by kernel_rfl) (by kernel_rfl) (by kernel_rfl) (by decide) rfl (fun c a' w' h => ⟨(putS_defers _ _ _).symm.trans h.1, h.2⟩) (fun _ => HD.out) (fun u => by go_simp; rfl) ?_
              simp only [List.getElem_toArray, List.getElem_cons_zero, List.getElem_cons_succ, Act.put, List.setIfInBounds_toArray, List.set_cons_zero, List.set_cons_succ]
              refine s_take 6 _ _ rfl (by kernel_rfl) (by kernel_rfl) (by kernel_rfl) (by kernel_rfl) (by kernel_rfl) (by decide) rfl (fun c a' w' h => ⟨(putS_defers _ _ _).symm.trans h.1, h.2⟩) (fun _ => HD.out) (fun u hu => by obtain ⟨r0, r1, r2⟩ := hu; go_simp; rfl) ?_
              simp only [List.getElem_toArray, List.getElem_cons_zero, List.getElem_cons_succ, Act.put, List.setIfInBounds_toArray, List.set_cons_zero, List.set_cons_succ]
              refine s_only 7 _ rfl (by kernel_rfl) ?_
              go_simp
              refine (moved_any _ has bp bm bs _ HVX.out HPD.out (by have := HSX.out; omega)).mono ?_
              rintro e w2' ⟨v2, rfl, ho2⟩
              have HB2' := hid ho2.below
              have HT2 := hid (HTD.out.later ho2.below)
              have HP2 := hid (HPD.out.later ho2.below)
              have HO2 := hid (Out.since HTD.out.own.own.below ho2)
              have HD2 : Hid (w2'.cell? ⟨b3, 0, none⟩ = some (.slice a3 n c3) ∧ w2'.cell? ⟨bx, 0, none⟩ = some (.string ty) ∧ w2'.cell? ⟨bx, 1, none⟩ = some (.slice ax has.length cx)) := hid (HDA.out w2' ho2.below)
              obtain ⟨av, cv, hv⟩ := ho2.sl.val
              subst hv
              clear ho2
              refine ⟨fun _ => HD2.out, ?_⟩
              try simp only [List.getElem_toArray, List.getElem_cons_zero, List.getElem_cons_succ, Act.put, List.setIfInBounds_toArray, List.set_cons_zero, List.set_cons_succ]
              refine s_calc 8 _ _ rfl (by kernel_rfl) (by kernel_rfl) (by kernel_rfl) (by kernel_rfl) (by decide) rfl (fun c a' w' h => ⟨(putS_defers _ _ _).symm.trans h.1, h.2⟩) (fun _ => HD2.out) (fun u => by go_simp; rfl) ?_
              simp only [List.getElem_toArray, List.getElem_cons_zero, List.getElem_cons_succ, Act.put, List.setIfInBounds_toArray, List.set_cons_zero, List.set_cons_succ]
              refine s_only 9 _ rfl (by kernel_rfl) ?_
              go_simp
              refine ⟨fun _ => HDA.out _ (HB2'.out.alloc HB2'.out.size _), ?_⟩
              try simp only [List.getElem_toArray, List.getElem_cons_zero, List.getElem_cons_succ, Act.put, List.setIfInBounds_toArray, List.set_cons_zero, List.set_cons_succ]
              refine s_only 10 _ rfl (by kernel_rfl) ?_
              have HTN : Hid (Out w1 w2' 35 2 (.slice a3 n c3) n (L.flatMap Th.cells)) := hid (by have := HT2.out.own.own; rwa [HNN.out] at this)
              have HRX2 : Hid (w2'.heap[bx]? = some (.cells #[.string ty, .slice ax has.length cx] 35 (0, 0))) := hid ((HB2'.out.block _ (Array.getElem?_eq_some_iff.1 HRXD.out).1).trans HRXD.out)
              refine step_append_out w1 w2' _ rfl _ _ 23 rfl 35 (.agg #[.string { data := #[] }, .slice none 0 0]) 2 40 1 Tryz.underlying23 infoTh rfl (by decide) _ _ _ HTN.out rfl rfl rfl ?_ (by have := HNL.out; omega) (by have := HNL.out; omega) ?_
              · simp [Value.oneCell']
              intro v4 w4 ho4 hg4
              obtain ⟨hc4, hf4, hT4⟩ := HT2.out.step (x := ⟨ty, .slice av has.length cv, has.map (movedV (false :: bs))⟩) (by simpa using HO2.out) (by have := ho4; rw [← HNN.out] at this; exact this) hg4
              have HT4 := hid hT4
              have HP4 := hid (pm_put (pm_grown HP2.out HT2.out.own.own hg4) (row_grown HT2.out.own.own HT2.out.r3 thing_heap hg4) (x := v4))
              have HD4 := hid (by exact (⟨hc4, row_cell2 ((hg4.block bx (Array.getElem?_eq_some_iff.1 HRX2.out).1 (fun e => Nat.lt_irrefl _ (HOB.out bx e.symm))).trans HRX2.out)⟩ : w4.cell? ⟨b3, 0, none⟩ = some (.slice a3 n c3) ∧ w4.cell? ⟨bx, 0, none⟩ = some (.string ty) ∧ w4.cell? ⟨bx, 1, none⟩ = some (.slice ax has.length cx)))
              have HF4 := hid hf4
              obtain ⟨a4, c4, rfl⟩ := ho4.sl.val
              clear ho4 hg4 hT4
              refine ⟨fun _ => HD4.out, ?_⟩
              try simp only [List.getElem_toArray, List.getElem_cons_zero, List.getElem_cons_succ, Act.put, List.setIfInBounds_toArray, List.set_cons_zero, List.set_cons_succ]
              refine s_calc 11 _ _ rfl (by kernel_rfl) (by kernel_rfl) (by kernel_rfl) (by kernel_rfl) (by decide) rfl (fun c a' w' h => ⟨(putS_defers _ _ _).symm.trans h.1, h.2⟩) (fun _ => HD4.out) (fun u => by go_simp; rfl) ?_
              simp only [List.getElem_toArray, List.getElem_cons_zero, List.getElem_cons_succ, Act.put, List.setIfInBounds_toArray, List.set_cons_zero, List.set_cons_succ]
              refine s_only 12 _ rfl (by kernel_rfl) ?_
              go_simp
              refine ⟨fun h => absurd h (by decide), ?_⟩
              refine s_end (by kernel_rfl) ?_
              go_wp2_with fail
              go_roundw
              case rel => exact ⟨k + 1, _, _, by omega, by simp, HT4, HP4, hid (HLN.out _)⟩
              case measure => simp [intOf]; omega
          · obtain rfl : k = H.length := by omega
            have HL2 : Hid (L.map bare = sweptH (false :: bs) H) := hid (by
              rw [HL.out, List.take_length, show bs.take H.length = bs from by rw [← HBL.out, List.take_length]]
              rfl)
            have HTD := hid (HT.out.later (Below.refl _ _).drew)
            have HPD := hid (HP.out.later (Below.refl _ _).drew)
            obtain ⟨WD, hWD⟩ : ∃ WD, wb.drew = WD := ⟨_, rfl⟩
            rw [hWD] at HTD HPD
            have HRD := hid (HR.out.below (HB1.out.trans (HTD.out.own.own.below.mono HB1.out.size)))
            have HD : Hid (WD.cell? ⟨b3, 0, none⟩ = some (.slice a3 n c3)) := hid (by rw [cell_of_row _ _ _ _ _ _ HTD.out.r3]; rfl)
            clear hlt
            go_wp2_with fail
            refine wp_region_s (fun u => u.cell? ⟨b3, 0, none⟩ = some (.slice a3 n c3)) 4 (by kernel_rfl) ?_
            show Go.Proofs.YtkfkdbmgmifopaaGreatDoor.grow.wpAnyS _ _ _ _ _ _ _ _ _ wb.drew
            rw [hWD]
            refine s_take 0 _ _ rfl (by kernel_rfl) (by kernel_rfl) (by kernel_rfl) (by kernel_rfl) (by kernel_rfl) (by decide) rfl (fun c a' w' h => ⟨(putS_defers _ _ _).symm.trans h.1, h.2⟩) (fun _ => HD.out) (fun u hu => by go_simp; rfl) ?_
            simp only [List.getElem_toArray, List.getElem_cons_zero, List.getElem_cons_succ, Act.put, List.setIfInBounds_toArray, List.set_cons_zero, List.set_cons_succ]
            refine s_calc 1 _ _ rfl (by kernel_rfl) (by kernel_rfl) (by kernel_rfl) (by kernel_rfl) (by decide) rfl (fun c a' w' h => ⟨(putS_defers _ _ _).symm.trans h.1, h.2⟩) (fun _ => HD.out) (fun u => by go_simp; rfl) ?_
            simp only [List.getElem_toArray, List.getElem_cons_zero, List.getElem_cons_succ, Act.put, List.setIfInBounds_toArray, List.set_cons_zero, List.set_cons_succ]
            refine s_calc 2 _ _ rfl (by kernel_rfl) (by kernel_rfl) (by kernel_rfl) (by kernel_rfl) (by decide) rfl (fun c a' w' h => ⟨(putS_defers _ _ _).symm.trans h.1, h.2⟩) (fun _ => HD.out) (fun u => by go_simp; rfl) ?_
            simp only [List.getElem_toArray, List.getElem_cons_zero, List.getElem_cons_succ, Act.put, List.setIfInBounds_toArray, List.set_cons_zero, List.set_cons_succ]
            refine s_only 3 _ rfl (by kernel_rfl) ?_
            go_simp
            refine (moved_any _ R bp bm bs _ HRD.out HPD.out (by have := HRL.out; omega)).mono ?_
            rintro e w2' ⟨v2, rfl, ho2⟩
            have HT2 := hid (HTD.out.later ho2.below)
            have HO2 := hid (out_put_other (j := 0) (x := .slice a3 n c3) (Out.since HTD.out.own.own.below ho2) HT2.out.r2 value_heap HT2.out.le2)
            have HT3 := hid (HT2.out.own.put (x := .slice a3 n c3) HT2.out.r2 HT2.out.le2)
            have HR2 := hid (setCell_row (j := 0) (x := .slice a3 n c3) HT2.out.r2)
            have hq2 : w2'.cell? ⟨b2, 0, none⟩ = some (.slice none 0 0) := by rw [cell_of_row _ _ _ _ _ _ HT2.out.r2]; rfl
            have hf2 : w2'.frozen? ⟨b2, 0, none⟩ = false := frozen_of_row _ _ _ _ _ HT2.out.r2
            have HD2 : Hid (w2'.cell? ⟨b3, 0, none⟩ = some (.slice a3 n c3)) := hid (by rw [cell_of_row _ _ _ _ _ _ HT2.out.r3]; rfl)
            obtain ⟨av, cv, hv⟩ := ho2.sl.val
            subst hv
            clear ho2
            refine ⟨fun _ => HD2.out, ?_⟩
            try simp only [List.getElem_toArray, List.getElem_cons_zero, List.getElem_cons_succ, Act.put, List.setIfInBounds_toArray, List.set_cons_zero, List.set_cons_succ]
            refine s_only 4 _ rfl (by kernel_rfl) ?_
            go_simp
            refine ⟨fun h => absurd h (by decide), ?_⟩
            try simp only [List.getElem_toArray, List.getElem_cons_zero, List.getElem_cons_succ, Act.put, List.setIfInBounds_toArray, List.set_cons_zero, List.set_cons_succ]
            refine s_calc 5 _ _ rfl (by kernel_rfl) (by kernel_rfl) (by kernel_rfl) (by kernel_rfl) (by decide) rfl (fun c a' w' h => ⟨(putS_defers _ _ _).symm.trans h.1, h.2⟩) (fun h => absurd h (by decide)) (fun u => by go_simp; rfl) ?_
            simp only [List.getElem_toArray, List.getElem_cons_zero, List.getElem_cons_succ, Act.put, List.setIfInBounds_toArray, List.set_cons_zero, List.set_cons_succ]
            refine s_calc 6 _ _ rfl (by kernel_rfl) (by kernel_rfl) (by kernel_rfl) (by kernel_rfl) (by decide) rfl (fun c a' w' h => ⟨(putS_defers _ _ _).symm.trans h.1, h.2⟩) (fun h => absurd h (by decide)) (fun u => by go_simp; rfl) ?_
            simp only [List.getElem_toArray, List.getElem_cons_zero, List.getElem_cons_succ, Act.put, List.setIfInBounds_toArray, List.set_cons_zero, List.set_cons_succ]
            refine s_end (by kernel_rfl) ?_
            go_wp2
            try simp only [Exit.inBlock, Exit.then]
            refine bodyPost_ret (results_cell_three rfl _ _ b2 _ _ _ _ rfl HR2.out Tryz.underlying25 rfl (by kernel_rfl)) rfl ?_
            exact sweepBy_ok H0.out HDN.out (OwnTh.since HB1.out HT3.out) HL2.out (Out.since HB1.out HO2.out)
  · have HEV : Hid (errVal (rootsF l H R) = .iface 45 (.int .i64 (rootsF l H R))) := hid (by unfold errVal; rw [if_neg h0])
    have H0 := hid h0
    have hq2 : w3.cell? ⟨b2, 0, none⟩ = some (.slice none 0 0) := by rw [cell_of_row _ _ _ _ _ _ HR3.out]; rfl
    have hf2 : w3.frozen? ⟨b2, 0, none⟩ = false := frozen_of_row _ _ _ _ _ HR3.out
    have HRE := hid (setCell_row (j := 0) (x := .slice none 0 0) HR3.out)
    have HBE : Hid (Below w.heap.size w (w3.setCell ⟨b2, 0, none⟩ (.slice none 0 0))) := hid (HB3.out.setCell (by show w.heap.size ≤ b2; have := HB2L.out; have := HB1.out.size; omega) _)
    rw [HEV.out]
    clear h0
    go_wp2
    try simp only [Exit.inBlock, Exit.then]
    refine bodyPost_ret (results_cell_three rfl _ _ b2 _ _ _ _ rfl HRE.out Tryz.underlying25 rfl (by kernel_rfl)) rfl ?_
    exact sweepBy_err H0.out HEV.out HBE.out
end Go.Proofs.YtkfkdbmgmifopaaGreatDoor.worlds
