/- What of a heap is needed: sweep.live and its closure, which calls itself. Condition: the values point into the heap. -/
import Derived.Test.YtkfkdbmgmifopaaGreatDoorWldL
import Derived.Test.YtkfkdbmgmifopaaGreatDoorSameH
import Derived.Laws.EntriesVeiled
set_option linter.unusedSimpArgs false
set_option linter.unusedVariables false
namespace Go.Proofs.YtkfkdbmgmifopaaGreatDoor.worlds
open Go.RowKit Go.Proofs.YtkfkdbmgmifopaaGreatDoor.lib Go.Proofs.YtkfkdbmgmifopaaGreatDoor.maps Go.Proofs.YtkfkdbmgmifopaaGreatDoor.classes Go.Proofs.YtkfkdbmgmifopaaGreatDoor.errs Go.Proofs.YtkfkdbmgmifopaaGreatDoor.descs Go.Proofs.YtkfkdbmgmifopaaGreatDoor.names Go.Proofs.YtkfkdbmgmifopaaGreatDoor.grow Go.Proofs.YtkfkdbmgmifopaaGreatDoor.ins

/-- the marks in memory, with what the closure holds -/
structure MS (w0 w : World) (g bs bm bh n : Nat) (ah : Option Addr) (ch : Nat) (H : List Th) (T : List Bool) : Prop where
  below : Below w0.heap.size w0 w
  row : w.heap[g]? = some (.cells (T.map Value.bool).toArray 4 (0, 0))
  cs : w.heap[bs]? = some (.cells #[.slice (some ⟨g, 0, none⟩) n n] 52 (0, 0))
  cm : w.heap[bm]? = some (.cells #[.func (.func 43) #[] #[.pointer (some ⟨bs, 0, none⟩), .pointer (some ⟨bm, 0, none⟩), .pointer (some ⟨bh, 0, none⟩)]] 81 (0, 0))
  chp : w.heap[bh]? = some (.cells #[.slice ah H.length ch] 25 (0, 0))
  len : T.length = n
  num : n = H.length + 1
  ge : w0.heap.size ≤ g
  ne : g ≠ bs ∧ g ≠ bm ∧ g ≠ bh
theorem MS.later {w0 w w' : World} {g bs bm bh n : Nat} {ah : Option Addr} {ch : Nat} {H : List Th} {T : List Bool} (h : MS w0 w g bs bm bh n ah ch H T) (hb : Below w.heap.size w w') : MS w0 w' g bs bm bh n ah ch H T :=
  ⟨h.below.trans (hb.mono h.below.size), (hb.block _ (Array.getElem?_eq_some_iff.1 h.row).1).trans h.row, (hb.block _ (Array.getElem?_eq_some_iff.1 h.cs).1).trans h.cs, (hb.block _ (Array.getElem?_eq_some_iff.1 h.cm).1).trans h.cm,
    (hb.block _ (Array.getElem?_eq_some_iff.1 h.chp).1).trans h.chp, h.len, h.num, h.ge, h.ne⟩
theorem map_set_bool (T : List Bool) (j : Nat) : ((T.map Value.bool).toArray.setIfInBounds j (.bool true)) = ((T.set j true).map Value.bool).toArray := by
  apply Array.ext'
  simp [List.map_set]
theorem MS.put {w0 w : World} {g bs bm bh n : Nat} {ah : Option Addr} {ch : Nat} {H : List Th} {T : List Bool} (h : MS w0 w g bs bm bh n ah ch H T) (j : Nat) : MS w0 (w.setCell ⟨g, j, none⟩ (.bool true)) g bs bm bh n ah ch H (T.set j true) := by
  have hk : ∀ k, k ≠ g → (w.setCell ⟨g, j, none⟩ (.bool true)).heap[k]? = w.heap[k]? := fun k hk => by
    simp only [World.setCell, Array.getElem?_modify]
    rw [if_neg (fun e => hk e.symm)]
  refine ⟨h.below.setCell h.ge _, ?_, (hk _ (Ne.symm h.ne.1)).trans h.cs, (hk _ (Ne.symm h.ne.2.1)).trans h.cm, (hk _ (Ne.symm h.ne.2.2)).trans h.chp, by rw [List.length_set]; exact h.len, h.num, h.ge, h.ne⟩
  rw [← map_set_bool]
  simp [World.setCell, Array.getElem?_modify, h.row]
theorem MS.at_ {w0 w : World} {g bs bm bh n : Nat} {ah : Option Addr} {ch : Nat} {H : List Th} {T : List Bool} (h : MS w0 w g bs bm bh n ah ch H T) {j : Nat} (hj : j < T.length) : w.cell? ⟨g, j, none⟩ = some (.bool T[j]) ∧ w.frozen? ⟨g, j, none⟩ = false := by
  refine ⟨?_, frozen_of_row _ _ _ _ _ h.row⟩
  rw [cell_of_row _ _ _ _ _ _ h.row]
  simp [hj]
theorem points_at {H : List Th} {v : Vl} (h : Points H v) (hk : v.k = 3) (h0 : 0 < v.n) : ∃ p : Nat, v.n = (p : Int) + 1 ∧ p < H.length := by
  have := h hk
  exact ⟨(v.n - 1).toNat, by omega, by omega⟩
theorem take_snoc {R : List Vl} {k : Nat} (h : k < R.length) : R.take (k + 1) = R.take k ++ [R[k]] := List.take_succ_eq_append_getElem h

set_option maxRecDepth 100000 in
set_option maxHeartbeats 8000000 in
theorem mark_any {w0 : World} {g bs bm bh n : Nat} {ah : Option Addr} {ch : Nat} {H : List Th} (hH : Ths w0 (.slice ah H.length ch) H) (hp : ∀ x ∈ H, ∀ v ∈ x.has, Points H v) (hl : ∀ x ∈ H, x.has.length ≤ 2000000) (hn50 : H.length ≤ 50) :
    ∀ (N : Nat) (va : Value) (R : List Vl) (S : List Bool) (w : World), left S < N → Vls w0 va R → (∀ v ∈ R, Points H v) → R.length ≤ 2000000 → MS w0 w g bs bm bh n ah ch H S →
    Calls Tryz.prog 43 #[va, .pointer (some ⟨bs, 0, none⟩), .pointer (some ⟨bm, 0, none⟩), .pointer (some ⟨bh, 0, none⟩)] w fun e w' => e = .returned (.tuple #[]) ∧ ∃ T, Marked H R S T ∧ MS w0 w' g bs bm bh n ah ch H T := by
  intro N
  induction N with
  | zero => intro _ _ _ _ h; exact absurd h (Nat.not_lt_zero _)
  | succ N ih =>
    intro va R S w hN hR hRp hRl hM
    obtain ⟨ar, cr, rfl⟩ := hR.val
    have HR := hid hR; have HM := hid hM; have HN := hid hN; have HRP := hid hRp; have IH := hid ih; have HH := hid hH; have HP := hid hp; have HLL := hid hl
    clear hR hM hN hRp ih
    go_enter Tryz.func43, Tryz.ntmps43
    go_wp2
    go_loopw [9] (fun v wr => ∃ (k : Nat) (T : List Bool), k ≤ R.length ∧ v = .int .i64 (k : Int) ∧ Hid (Marked H (R.take k) S T) ∧ Hid (MS w0 wr g bs bm bh n ah ch H T)) (fun v _ => R.length - (intOf v).toNat)
    case atStart => exact ⟨0, S, Nat.zero_le _, rfl, hid (by rw [List.take_zero]; exact marked_nil H S), HM⟩
    case round =>
      obtain ⟨k, T, hk, rfl, HK, HT⟩ := hrel
      clear HM
      obtain ⟨wb, hwb⟩ : ∃ wb, wb = wr := ⟨_, rfl⟩
      subst hwb
      have hk0 : (0 : Int) ≤ (k : Int) := by omega
      by_cases hlt : k < R.length
      · have hk1 : (k : Int) < (R.length : Int) := by omega
        obtain ⟨bb, off, hab, hd0, hd1⟩ := vl_at (HR.out.below HT.out.below) hlt
        cases hab
        have HPV := hid (HRP.out _ (List.getElem_mem hlt))
        have HTS := hid (take_snoc hlt)
        generalize R[k] = v at hd0 hd1 HPV HTS
        obtain ⟨vk, vn⟩ := v
        simp only at hd0 hd1
        obtain ⟨W3, hW3⟩ : ∃ W3, wb.alloc (.cells #[.int .i64 vk, .int .i64 vn] 37) = W3 := ⟨_, rfl⟩
        have HBa : Hid (Below wb.heap.size wb W3) := hid (hW3 ▸ ext_alloc _ _)
        have HT3 := hid (HT.out.later HBa.out)
        have hlt3 : wb.heap.size < W3.heap.size := by rw [← hW3]; simp
        have hr3 : W3.heap[wb.heap.size]? = some (.cells #[.int .i64 vk, .int .i64 vn] 37 (0, 0)) := hW3 ▸ heap_alloc_new _ _
        have x0 : W3.cell? ⟨wb.heap.size, 0, none⟩ = some (.int .i64 vk) := by rw [cell_of_row _ _ _ _ _ _ hr3]; rfl
        have x1 : W3.cell? ⟨wb.heap.size, 1, none⟩ = some (.int .i64 vn) := by rw [cell_of_row _ _ _ _ _ _ hr3]; rfl
        have HGB : Hid (g < wb.heap.size) := hid (Array.getElem?_eq_some_iff.1 HT.out.row).1
        have HR3 := hid hr3
        have HL3 := hid hlt3
        clear hr3 hlt3
        by_cases h3 : vk = 3
        · subst h3
          by_cases h0 : 0 < vn
          · obtain ⟨p, hpn, hpl⟩ := points_at HPV.out rfl h0
            simp only at hpn
            subst hpn
            have hpT : p + 1 < T.length := by have := HT.out.len; have := HT.out.num; omega
            have hn1 : (p : Int) + 1 < (n : Int) := by have := HT.out.num; omega
            have hn0 : (0 : Int) ≤ (p : Int) + 1 := by omega
            have hs0 : W3.cell? ⟨bs, 0, none⟩ = some (.slice (some ⟨g, 0, none⟩) n n) := by rw [cell_of_row _ _ _ _ _ _ HT3.out.cs]; rfl
            obtain ⟨hg0, hg1⟩ := HT3.out.at_ hpT
            cases hb : T[p + 1] with
            | true =>
              rw [hb] at hg0
              have HK2 : Hid (Marked H (R.take (k + 1)) S T) := hid (by
                rw [HTS.out]
                refine marked_skip HK.out fun _ => ?_
                show isM T ((p : Int) + 1).toNat
                rw [show ((p : Int) + 1).toNat = p + 1 from by omega]
                unfold isM
                rw [List.getElem?_eq_getElem hpT, hb])
              clear hb
              go_wp2_with fail
              go_roundw
              case rel => exact ⟨k + 1, T, by omega, by simp, HK2, HT3⟩
              case measure => simp [intOf]; omega
            | false =>
              rw [hb] at hg0
              have HTP : Hid (T[p + 1]? = some false) := hid (by rw [List.getElem?_eq_getElem hpT, hb])
              have HPL := hid hpl; have HPT := hid hpT
              have hw : wrap64 ((p : Int) + 1 - 1) = (p : Int) := by unfold wrap64; omega
              have HW2 : Hid (IntKind.i64.wrap (p : Int) = (p : Int)) := hid (by rw [IntKind.wrap_i64]; omega)
              have hp0 : (0 : Int) ≤ (p : Int) := by omega
              have hp1 : (p : Int) < (H.length : Int) := by omega
              clear hb
              obtain ⟨W4, hW4⟩ : ∃ W4, W3.setCell ⟨g, p + 1, none⟩ (.bool true) = W4 := ⟨_, rfl⟩
              have HT4 : Hid (MS w0 W4 g bs bm bh n ah ch H (T.set (p + 1) true)) := hid (hW4 ▸ HT3.out.put (p + 1))
              have HR4 : Hid (W4.heap[wb.heap.size]? = some (.cells #[.int .i64 3, .int .i64 ((p : Int) + 1)] 37 (0, 0))) := hid (by
                rw [← hW4]
                simp only [World.setCell, Array.getElem?_modify]
                rw [if_neg (by have := HGB.out; omega)]
                exact HR3.out)
              obtain ⟨hb, ho, hab, he0, he1⟩ := th_at (HH.out.below HT4.out.below) hpl
              have HAB := hid hab
              have HVX := hid (HH.out.at_ _ (List.getElem_mem hpl))
              have HPX := hid (HP.out _ (List.getElem_mem hpl))
              have HLX := hid (HLL.out _ (List.getElem_mem hpl))
              have HXG : Hid (H[((⟨3, (p : Int) + 1⟩ : Vl).n.toNat - 1)]? = some H[p]) := hid (by
                show H[((p : Int) + 1).toNat - 1]? = _
                rw [show ((p : Int) + 1).toNat - 1 = p from by omega]
                exact List.getElem?_eq_getElem hpl)
              have HLT : Hid ((⟨3, (p : Int) + 1⟩ : Vl).n.toNat < T.length) := hid (by show ((p : Int) + 1).toNat < _; omega)
              have HSE : Hid (T.set (⟨3, (p : Int) + 1⟩ : Vl).n.toNat true = T.set (p + 1) true) := hid (by show T.set ((p : Int) + 1).toNat true = _; rw [show ((p : Int) + 1).toNat = p + 1 from by omega])
              generalize H[p] = x at he0 he1 HVX HPX HXG HLX
              obtain ⟨ax, cx, hvh⟩ := HVX.out.val
              rw [hvh] at he1
              have HVX2 : Hid (Vls w0 (.slice ax x.has.length cx) x.has) := hid (by have := HVX.out; rwa [hvh] at this)
              have HRD : Hid (∀ u, Below W4.heap.size W4 u → u.cell? ⟨bm, 0, none⟩ = some (.func (.func 43) #[] #[.pointer (some ⟨bs, 0, none⟩), .pointer (some ⟨bm, 0, none⟩), .pointer (some ⟨bh, 0, none⟩)]) ∧ u.cell? ⟨bh, 0, none⟩ = some (.slice (some ⟨hb, ho, none⟩) H.length ch) ∧ u.cell? ⟨wb.heap.size, 0, none⟩ = some (.int .i64 3) ∧ u.cell? ⟨wb.heap.size, 1, none⟩ = some (.int .i64 ((p : Int) + 1)) ∧ u.cell? ⟨hb, ho + p * 2 + 1, none⟩ = some (.slice ax x.has.length cx)) := hid (fun u hu => by
                have hm := HT4.out.later hu
                have h4 := (hu.block _ (Array.getElem?_eq_some_iff.1 HR4.out).1).trans HR4.out
                refine ⟨by rw [cell_of_row _ _ _ _ _ _ hm.cm]; rfl, by rw [cell_of_row _ _ _ _ _ _ hm.chp]; simp [HAB.out], by rw [cell_of_row _ _ _ _ _ _ h4]; rfl, by rw [cell_of_row _ _ _ _ _ _ h4]; rfl, (hu.cell (World.block_lt_of_cell? _ _ he1)).trans he1⟩)
              clear he0 he1 hvh hab
              go_wp2_with fail
              refine wp_region_ext_tail 9 [] trivial (by kernel_rfl) (by kernel_rfl) ?_
              refine wpG_read 1 rfl rfl (.func (.func 43) #[] #[.pointer (some ⟨bs, 0, none⟩), .pointer (some ⟨bm, 0, none⟩), .pointer (some ⟨bh, 0, none⟩)]) rfl ?_ ?_
              · intro u hu hh
                obtain ⟨r0, r1, r2, r3, r4⟩ := HRD.out u hu
                go_simp
              simp only [Act.put, List.setIfInBounds_toArray, List.set_cons_zero, List.set_cons_succ]
              refine wpG_calc 2 rfl rfl rfl (fun u => by go_simp; rfl) ?_
              simp only [Act.put, List.setIfInBounds_toArray, List.set_cons_zero, List.set_cons_succ]
              refine wpG_read 3 rfl rfl (.slice (some ⟨hb, ho, none⟩) H.length ch) rfl ?_ ?_
              · intro u hu hh
                obtain ⟨r0, r1, r2, r3, r4⟩ := HRD.out u hu
                go_simp
              simp only [Act.put, List.setIfInBounds_toArray, List.set_cons_zero, List.set_cons_succ]
              refine wpG_calc 4 rfl rfl rfl (fun u => by go_simp; rfl) ?_
              simp only [Act.put, List.setIfInBounds_toArray, List.set_cons_zero, List.set_cons_succ]
              refine wpG_read 5 rfl rfl (.int .i64 ((p : Int) + 1)) rfl ?_ ?_
              · intro u hu hh
                obtain ⟨r0, r1, r2, r3, r4⟩ := HRD.out u hu
                go_simp
              simp only [Act.put, List.setIfInBounds_toArray, List.set_cons_zero, List.set_cons_succ]
              refine wpG_calc (v := .int .i64 (p : Int)) 6 rfl rfl rfl (fun u => by have hw2 := HW2.out; first | (go_simp; done) | (go_simp; exact hw2)) ?_
              simp only [Act.put, List.setIfInBounds_toArray, List.set_cons_zero, List.set_cons_succ]
              refine wpG_calc 7 rfl rfl rfl (fun u => by go_simp; rfl) ?_
              simp only [Act.put, List.setIfInBounds_toArray, List.set_cons_zero, List.set_cons_succ]
              refine wpG_calc 8 rfl rfl rfl (fun u => by go_simp; rfl) ?_
              simp only [Act.put, List.setIfInBounds_toArray, List.set_cons_zero, List.set_cons_succ]
              refine wpG_read 9 rfl rfl (.slice ax x.has.length cx) rfl ?_ ?_
              · intro u hu hh
                obtain ⟨r0, r1, r2, r3, r4⟩ := HRD.out u hu
                go_simp
              simp only [Act.put, List.setIfInBounds_toArray, List.set_cons_zero, List.set_cons_succ]
              refine wpG_nil fun w' hb' hF => ?_
              clear hF
              have HT5 := hid (HT4.out.later hb')
              clear hb'
              go_wp2_with fail
              refine (IH.out (.slice ax x.has.length cx) x.has (T.set (p + 1) true) w' (by
                have h1 := left_set HTP.out
                have h2 := left_more HK.out.len HK.out.more
                have := HN.out
                omega) HVX2.out HPX.out HLX.out HT5.out).mono ?_
              rintro e w6 ⟨rfl, U, hU, hM6⟩
              have HU : Hid (Marked H (R.take (k + 1)) S U) := hid (by
                rw [HTS.out]
                exact marked_go HK.out ⟨rfl, by show (0 : Int) < (p : Int) + 1; omega⟩ HXG.out HLT.out (by rw [HSE.out]; exact hU))
              have HM6 := hid hM6
              clear hU hM6
              go_wp2_with fail
              go_roundw
              case rel => exact ⟨k + 1, U, by omega, by simp, HU, HM6⟩
              case measure => simp [intOf]; omega
          · have HK2 : Hid (Marked H (R.take (k + 1)) S T) := hid (by rw [HTS.out]; exact marked_skip HK.out fun hl => absurd hl.2 h0)
            go_wp2_with fail
            go_roundw
            case rel => exact ⟨k + 1, T, by omega, by simp, HK2, HT3⟩
            case measure => simp [intOf]; omega
        · have HK2 : Hid (Marked H (R.take (k + 1)) S T) := hid (by rw [HTS.out]; exact marked_skip HK.out fun hl => absurd hl.1 h3)
          have h4 : (vk == 3) = false := by simpa using h3
          go_wp2_with fail
          go_roundw
          case rel => exact ⟨k + 1, T, by omega, by simp, HK2, HT3⟩
          case measure => simp [intOf]; omega
      · obtain rfl : k = R.length := by omega
        have HK2 : Hid (Marked H R S T) := hid (by have := HK.out; rwa [List.take_length] at this)
        clear hlt HK
        go_wp2
        go_end0
        exact ⟨rfl, T, HK2.out, HT.out⟩

theorem MS.sl {w0 w : World} {g bs bm bh n : Nat} {ah : Option Addr} {ch : Nat} {H : List Th} {T : List Bool} (h : MS w0 w g bs bm bh n ah ch H T) : Sl w (.slice (some ⟨g, 0, none⟩) n n) T.length 1 (T.map .bool) := by
  refine ⟨by rw [List.length_map, Nat.mul_one], _, _, ?_, Nat.le_of_eq h.len, .inr ⟨g, 0, rfl, fun j u hj => ?_⟩⟩
  · rw [h.len]
  · rw [Nat.zero_add, cell_of_row _ _ _ _ _ _ h.row]
    simpa using hj

set_option maxRecDepth 100000 in
set_option maxHeartbeats 8000000 in
theorem live_any (vt vr : Value) (H : List Th) (R : List Vl) (w : World) (hH : Ths w vt H) (hR : Vls w vr R) (hp : ∀ x ∈ H, ∀ v ∈ x.has, Points H v) (hl : ∀ x ∈ H, x.has.length ≤ 2000000) (hRp : ∀ v ∈ R, Points H v) (hRl : R.length ≤ 2000000) (hn : H.length ≤ 50) :
    Calls Tryz.prog 27 #[.agg #[vt], vr] w fun e w' => ∃ v T, e = .returned v ∧ Marked H R (List.replicate (H.length + 1) false) T ∧ Sl w' v T.length 1 (T.map .bool) ∧ Below w.heap.size w w' := by
  obtain ⟨ah, ch, rfl⟩ := hH.sl.val
  obtain ⟨ar, cr, rfl⟩ := hR.val
  obtain ⟨bh, hbh⟩ : ∃ bh, w.heap.size = bh := ⟨_, rfl⟩
  obtain ⟨W1, hW1⟩ : ∃ W1, w.alloc (.cells #[.slice ah H.length ch] 25) = W1 := ⟨_, rfl⟩
  have HB1 : Hid (Below w.heap.size w W1) := hid (hW1 ▸ ext_alloc _ _)
  have hr1 : W1.heap[bh]? = some (.cells #[.slice ah H.length ch] 25 (0, 0)) := by rw [← hW1, ← hbh]; exact heap_alloc_new _ _
  have x0 : W1.cell? ⟨bh, 0, none⟩ = some (.slice ah H.length ch) := by rw [cell_of_row _ _ _ _ _ _ hr1]; rfl
  obtain ⟨n, hnn⟩ : ∃ n, H.length + 1 = n := ⟨_, rfl⟩
  have hn1 : (H.length : Int) + 1 = (n : Int) := by omega
  have hnm : n ≤ 51 := by omega
  obtain ⟨M, hM⟩ : ∃ M, madeCells #[.bool false] n = M := ⟨_, rfl⟩
  have hMr : M = ((List.replicate n false).map Value.bool).toArray := by
    rw [← hM, madeCells_one, List.map_replicate, List.toArray_replicate]
  obtain ⟨si, hsi, hz, hsz, hby⟩ := info_parts (show (Tryz.prog.info? 4).map (fun i => (i.zero, i.size, i.bytes)) = some (some (.bool false), 1, 1) by kernel_rfl)
  have hmk : (Instr.makeSlice 52 (.int .i64 (n : Int)) (.int .i64 (n : Int))).run Tryz.prog W1 = .ok (.slice (some ⟨W1.heap.size, 0, none⟩) n n) (W1.alloc (.cells M 4)) := by
    have := run_makeSlice (P := Tryz.prog) W1 52 4 si _ Tryz.underlying52 hsi hz .i64 .i64 (n : Int) (n : Int) (by omega) (by omega) (by rw [hsz]; simp; omega) (by rw [hby]; omega) (by omega)
    rw [hsz] at this
    simp only [Int.toNat_natCast, Nat.mul_one] at this
    rw [show madeCells (Value.bool false).cells n = M from hM] at this
    exact this
  obtain ⟨g, hg⟩ : ∃ g, W1.heap.size = g := ⟨_, rfl⟩
  have hmf : ∀ (fn : Fn) (first cap : Array Value) (w : World), (Instr.makeFunc fn first cap).run Tryz.prog w = .ok (.func fn first cap) w := fun _ _ _ _ => rfl
  have HH := hid hH; have HR := hid hR; have HP := hid hp; have HL := hid hl; have HRP := hid hRp; have HRL := hid hRl
  have HR1 := hid hr1
  have HNN := hid hnn; have HMR := hid hMr
  obtain ⟨FV, hFV⟩ : ∃ FV, Value.func (.func 43) #[] #[.pointer (some ⟨g + 1, 0, none⟩), .pointer (some ⟨g + 1 + 1, 0, none⟩), .pointer (some ⟨bh, 0, none⟩)] = FV := ⟨_, rfl⟩
  obtain ⟨W4, hW4⟩ : ∃ W4, ((W1.alloc (.cells M 4)).alloc (.cells #[.slice (some ⟨g, 0, none⟩) n n] 52)).alloc (.cells #[.nilFunc] 81) = W4 := ⟨_, rfl⟩
  have z1 : (W1.alloc (.cells M 4)).heap.size = g + 1 := by rw [World.size_alloc, hg]
  have z2 : ((W1.alloc (.cells M 4)).alloc (.cells #[.slice (some ⟨g, 0, none⟩) n n] 52)).heap.size = g + 1 + 1 := by rw [World.size_alloc, z1]
  have r4 : W4.heap[g + 1 + 1]? = some (.cells #[.nilFunc] 81 (0, 0)) := by rw [← hW4, ← z2]; exact heap_alloc_new _ _
  have r3 : W4.heap[g + 1]? = some (.cells #[.slice (some ⟨g, 0, none⟩) n n] 52 (0, 0)) := by
    rw [← hW4]
    refine ((ext_alloc _ _).block (g + 1) (by rw [z2]; omega)).trans ?_
    rw [← z1]; exact heap_alloc_new _ _
  have r2 : W4.heap[g]? = some (.cells M 4 (0, 0)) := by
    rw [← hW4]
    refine ((ext_alloc _ _).block g (by rw [z2]; omega)).trans (((ext_alloc _ _).block g (by rw [z1]; omega)).trans ?_)
    rw [← hg]; exact heap_alloc_new _ _
  have HB14 : Below W1.heap.size W1 W4 := by
    rw [← hW4]
    exact (ext_alloc _ _).trans (((ext_alloc _ _).trans ((ext_alloc _ _).mono (ext_alloc _ _).size)).mono (ext_alloc _ _).size)
  have hgb : bh < g := by rw [← hg, ← hbh]; rw [← hW1]; simp
  have r1 : W4.heap[bh]? = some (.cells #[.slice ah H.length ch] 25 (0, 0)) := (HB14.block bh (by omega)).trans hr1
  have HM4 : Hid (MS w (W4.setCell ⟨g + 1 + 1, 0, none⟩ (.func (.func 43) #[] #[.pointer (some ⟨g + 1, 0, none⟩), .pointer (some ⟨g + 1 + 1, 0, none⟩), .pointer (some ⟨bh, 0, none⟩)])) g (g + 1) (g + 1 + 1) bh n ah ch H (List.replicate n false)) := hid (by
    have hle : w.heap.size ≤ g + 1 + 1 := by omega
    refine ⟨(HB1.out.trans (HB14.mono HB1.out.size)).setCell hle _, ?_, ?_, ?_, ?_, by rw [List.length_replicate], hnn.symm, by omega, by omega⟩
    · rw [setCell_other (by omega), r2, hMr]
    · rw [setCell_other (by omega)]; exact r3
    · exact setCell_row r4
    · rw [setCell_other (by omega)]; exact r1)
  have c4 : W4.cell? ⟨g + 1 + 1, 0, none⟩ = some .nilFunc := by rw [cell_of_row _ _ _ _ _ _ r4]; rfl
  have f4 : W4.frozen? ⟨g + 1 + 1, 0, none⟩ = false := frozen_of_row _ _ _ _ _ r4
  obtain ⟨W5, hW5⟩ : ∃ W5, W4.setCell ⟨g + 1 + 1, 0, none⟩ (.func (.func 43) #[] #[.pointer (some ⟨g + 1, 0, none⟩), .pointer (some ⟨g + 1 + 1, 0, none⟩), .pointer (some ⟨bh, 0, none⟩)]) = W5 := ⟨_, rfl⟩
  rw [hW5] at HM4
  have c5 : W5.cell? ⟨g + 1 + 1, 0, none⟩ = some (.func (.func 43) #[] #[.pointer (some ⟨g + 1, 0, none⟩), .pointer (some ⟨g + 1 + 1, 0, none⟩), .pointer (some ⟨bh, 0, none⟩)]) := by rw [cell_of_row _ _ _ _ _ _ HM4.out.cm]; rfl
  clear z1 z2 r1 r2 r3 r4 HB14 hgb hFV
  clear hH hR hp hl hRp hRl hM hsi hz hsz hby hr1 hMr hnn
  go_enter Tryz.func27, Tryz.ntmps27
  go_wp2_with fail
  refine (mark_any HH.out HP.out HL.out hn (left (List.replicate n false) + 1) (.slice ar R.length cr) R (List.replicate n false) W5 (Nat.lt_succ_self _) HR.out HRP.out HRL.out HM4.out).mono ?_
  rintro e w6 ⟨rfl, T, hT, hM6⟩
  have HT := hid hT
  have HM6 := hid hM6
  have c6 : w6.cell? ⟨g + 1, 0, none⟩ = some (.slice (some ⟨g, 0, none⟩) n n) := by rw [cell_of_row _ _ _ _ _ _ HM6.out.cs]; rfl
  clear hT hM6
  go_wp2
  go_ret
  exact ⟨_, T, rfl, by rw [HNN.out]; exact HT.out, HM6.out.sl, HM6.out.below⟩
end Go.Proofs.YtkfkdbmgmifopaaGreatDoor.worlds
