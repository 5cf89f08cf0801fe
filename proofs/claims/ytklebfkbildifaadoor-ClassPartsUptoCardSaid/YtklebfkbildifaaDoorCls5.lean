/- Classes: class.method. Conditions: the table lies in its variable; the method is not long. -/
import Derived.Test.YtklebfkbildifaaDoorCls4
namespace Go.Proofs.YtklebfkbildifaaDoor.classes
open Go.RowKit Go.Proofs.YtklebfkbildifaaDoor.lib Go.Proofs.YtklebfkbildifaaDoor.errs Go.Proofs.YtklebfkbildifaaDoor.names Go.Proofs.YtklebfkbildifaaDoor.descs Go.Proofs.YtklebfkbildifaaDoor.ins Go.Proofs.YtklebfkbildifaaDoor.flows Go.Proofs.YtklebfkbildifaaDoor.hdls Go.Proofs.YtklebfkbildifaaDoor.grow

set_option maxRecDepth 100000 in
set_option maxHeartbeats 4000000 in
theorem cmethod_any (m : MV) (va : Value) (ahead : List MV) (w : World) (hm : m.At w) (ha : Mets w va ahead) (hf : FormsAt w) (hsm : SmallM m) (hn : ahead.length ≤ 1000000000000) :
    Calls Tryd.prog 58 #[.agg m.cells.toArray, va] w fun e w' => e = .returned (errVal (metFault m ahead)) ∧ Below w.heap.size w w' := by
  obtain ⟨nm, ty, st, ab, pr, lo, vc, vh, l, hs⟩ := m
  obtain ⟨Z, hZ⟩ : ∃ Z, metFault ⟨nm, ty, st, ab, pr, lo, vc, vh, l, hs⟩ ahead = Z := ⟨_, rfl⟩
  have HZ : Hid ((if nameOk nm.data.toList = false then 1 else if methodOf ty.data.toList = none then 1 else if twin nm ty ahead = true then 5 else if lo < 0 ∨ 8 < lo then 2 else bodyFault ⟨nm, ty, st, ab, pr, lo, vc, vh, l, hs⟩) = Z) := hid hZ
  have HBD := hid (fun (u : World) (h : Below w.heap.size w u) => body_any ⟨nm, ty, st, ab, pr, lo, vc, vh, l, hs⟩ u (hm.below h) (hf.below h) hsm)
  rw [hZ]
  have hnm : nm.size ≤ 1048576 := hsm.nm
  have hty : ty.size ≤ 1048576 := hsm.ty
  obtain ⟨hc, hv⟩ := hm
  simp only [MV.cells] at hc hv HBD ⊢
  obtain ⟨ac, cc, rfl⟩ := hc.val
  obtain ⟨ah, ch, rfl⟩ := hv.val
  obtain ⟨aa, ca, rfl⟩ := ha.sl.val
  obtain ⟨W0, hW0⟩ : ∃ W0, w.alloc (.cells #[.string nm, .string ty, .bool st, .bool ab, .bool pr, .int .i64 lo, .slice ac l.length cc, .slice ah hs.length ch] 25) = W0 := ⟨_, rfl⟩
  have HBX : Hid (W0.heap[w.heap.size]? = some (.cells #[.string nm, .string ty, .bool st, .bool ab, .bool pr, .int .i64 lo, .slice ac l.length cc, .slice ah hs.length ch] 25)) := hid (by subst hW0; exact heap_alloc_new _ _)
  have HB0 : Hid (Below w.heap.size w W0 ∧ w.heap.size < W0.heap.size) := hid (by subst hW0; exact ⟨ext_alloc _ _, by rw [World.size_alloc]; exact Nat.lt_succ_self _⟩)
  have HMA := hid ha
  have hk0 : W0.cell? ⟨w.heap.size, 0, none⟩ = some (.string nm) := by rw [cell_of_row _ _ _ _ _ _ HBX.out]; rfl
  clear hc hv hf hsm hZ ha
  cases hN : nameOk nm.data.toList with
  | false =>
    have HZ2 : Hid (Z = 1) := hid (by have := HZ.out; rw [if_pos hN] at this; exact this.symm)
    have HN := hid hN
    clear hN
    go_enter Tryd.func58, Tryd.ntmps58
    go_wp2_with fail
    refine (check_any nm _ (by omega)).mono ?_
    intro e w1 h1
    obtain ⟨rfl, hb1⟩ := checked_false h1 HN.out
    clear h1
    go_wp2_with fail
    go_ret
    rw [HZ2.out]
    exact ⟨rfl, HB0.out.1.trans (hb1.mono HB0.out.1.size)⟩
  | true =>
    have HZ2 : Hid ((if methodOf ty.data.toList = none then 1 else if twin nm ty ahead = true then 5 else if lo < 0 ∨ 8 < lo then 2 else bodyFault ⟨nm, ty, st, ab, pr, lo, .slice ac l.length cc, .slice ah hs.length ch, l, hs⟩) = Z) := hid (by have := HZ.out; rw [if_neg (by rw [hN]; decide)] at this; exact this)
    have HN := hid hN
    clear hN HZ
    go_enter Tryd.func58, Tryd.ntmps58
    go_wp2_with fail
    refine (check_any nm _ (by omega)).mono ?_
    intro e w1 h1
    obtain ⟨rfl, hb1⟩ := checked_true h1 HN.out
    clear h1
    have HX1 := hid ((hb1.block _ HB0.out.2).trans HBX.out)
    have HB1 := hid (HB0.out.1.trans (hb1.mono HB0.out.1.size))
    have HL1 := hid (Nat.lt_of_lt_of_le HB0.out.2 hb1.size)
    clear hb1 HBX hW0 hk0
    have hk1 : w1.cell? ⟨w.heap.size, 1, none⟩ = some (.string ty) := by rw [cell_of_row _ _ _ _ _ _ HX1.out]; rfl
    go_wp2_with fail
    clear hk1
    refine (method_any ty _ (by omega)).mono ?_
    intro e w2 h2
    cases hT : methodOf ty.data.toList with
    | none =>
      obtain ⟨rfl, hb2⟩ := methodBy_none hT h2
      have HZ3 : Hid (Z = 1) := hid (by have := HZ2.out; rw [if_pos hT] at this; exact this.symm)
      clear h2 hT
      go_wp2_with fail
      go_ret
      rw [HZ3.out]
      exact ⟨rfl, HB1.out.trans (hb2.mono HB1.out.size)⟩
    | some r =>
      obtain ⟨ts, g⟩ := r
      obtain ⟨v, rfl, ho⟩ := methodBy_some hT h2
      have HZ3 : Hid ((if twin nm ty ahead = true then 5 else if lo < 0 ∨ 8 < lo then 2 else bodyFault ⟨nm, ty, st, ab, pr, lo, .slice ac l.length cc, .slice ah hs.length ch, l, hs⟩) = Z) := hid (by have := HZ2.out; rw [if_neg (by rw [hT]; exact fun h => by cases h)] at this; exact this)
      have HX2 := hid ((ho.below.block _ HL1.out).trans HX1.out)
      have HB2 := hid (HB1.out.trans (ho.below.mono HB1.out.size))
      have HL2 := hid (Nat.lt_of_lt_of_le HL1.out ho.below.size)
      obtain ⟨av, cv, rfl⟩ := ho.sl.val
      have HCT := hid (containsM_any (.slice aa ahead.length ca) ahead nm ty w.heap.size w2 (HMA.out.below HB2.out) (by rw [cell_of_row _ _ _ _ _ _ HX2.out]; rfl) (by rw [cell_of_row _ _ _ _ _ _ HX2.out]; rfl) hn)
      clear h2 hT ho
      go_wp2_with fail
      refine HCT.out.mono ?_
      rintro e w3 ⟨rfl, hb3⟩
      have HX3 := hid ((hb3.block _ HL2.out).trans HX2.out)
      have HB3 := hid (HB2.out.trans (hb3.mono HB2.out.size))
      have HL3 := hid (Nat.lt_of_lt_of_le HL2.out hb3.size)
      clear hb3
      cases hW : twin nm ty ahead with
      | true =>
        have HZ4 : Hid (Z = 5) := hid (by have := HZ3.out; rw [if_pos hW] at this; exact this.symm)
        clear hW
        go_wp2_with fail
        go_ret
        rw [HZ4.out]
        exact ⟨rfl, HB3.out⟩
      | false =>
        have HZ4 : Hid ((if lo < 0 ∨ 8 < lo then 2 else bodyFault ⟨nm, ty, st, ab, pr, lo, .slice ac l.length cc, .slice ah hs.length ch, l, hs⟩) = Z) := hid (by have := HZ3.out; rw [if_neg (by rw [hW]; decide)] at this; exact this)
        clear hW
        have hk5 : w3.cell? ⟨w.heap.size, 5, none⟩ = some (.int .i64 lo) := by rw [cell_of_row _ _ _ _ _ _ HX3.out]; rfl
        by_cases h0 : lo < 0
        · have HZ5 : Hid (Z = 2) := hid (by have := HZ4.out; rw [if_pos (.inl h0)] at this; exact this.symm)
          go_wp2_with fail
          go_ret
          rw [HZ5.out]
          exact ⟨rfl, HB3.out⟩
        · by_cases h8 : 8 < lo
          · have HZ5 : Hid (Z = 2) := hid (by have := HZ4.out; rw [if_pos (.inr h8)] at this; exact this.symm)
            go_wp2_with fail
            go_ret
            rw [HZ5.out]
            exact ⟨rfl, HB3.out⟩
          · have HZ5 : Hid (bodyFault ⟨nm, ty, st, ab, pr, lo, .slice ac l.length cc, .slice ah hs.length ch, l, hs⟩ = Z) := hid (by have := HZ4.out; rw [if_neg (by omega)] at this; exact this)
            have HBD3 := hid (HBD.out w3 HB3.out)
            go_wp2_with (refine wpList_load_row rfl 25 (.tmp 2) rfl w.heap.size rfl _ _ _ _ HX3.out Tryd.underlying25 rfl (by kernel_rfl) ?_)
            refine HBD3.out.mono ?_
            rintro e w5 ⟨rfl, hb5⟩
            go_wp2_with fail
            go_ret
            rw [HZ5.out]
            exact ⟨rfl, HB3.out.trans (hb5.mono HB3.out.size)⟩
end Go.Proofs.YtklebfkbildifaaDoor.classes
