/- Classes: class.body. Conditions: the table lies in its variable; the method is not long. -/
import Derived.Test.YtklebfkbildifaaDoorCls3
import Derived.Test.YtklebfkbildifaaDoorHdl3
import Derived.Test.YtklebfkbildifaaDoorGrow
namespace Go.Proofs.YtklebfkbildifaaDoor.classes
open Go.RowKit Go.Proofs.YtklebfkbildifaaDoor.lib Go.Proofs.YtklebfkbildifaaDoor.errs Go.Proofs.YtklebfkbildifaaDoor.names Go.Proofs.YtklebfkbildifaaDoor.descs Go.Proofs.YtklebfkbildifaaDoor.ins Go.Proofs.YtklebfkbildifaaDoor.flows Go.Proofs.YtklebfkbildifaaDoor.hdls Go.Proofs.YtklebfkbildifaaDoor.grow

set_option maxRecDepth 100000 in
set_option maxHeartbeats 2000000 in
theorem body_abs (nm ty : ByteArray) (st pr : Bool) (lo : Int) (ac : Option Addr) (n cc : Nat) (ah : Option Addr) (m ch : Nat) (w : World) (hn : n ≤ 1000000000000) (hm : m ≤ 1000000000000) :
    Calls Tryd.prog 89 #[.agg #[.string nm, .string ty, .bool st, .bool true, .bool pr, .int .i64 lo, .slice ac n cc, .slice ah m ch]] w fun e w' => e = .returned (errVal (absFault st pr n m)) ∧ Below w.heap.size w w' := by
  have HB := hid (ext_alloc w (.cells #[.string nm, .string ty, .bool st, .bool true, .bool pr, .int .i64 lo, .slice ac n cc, .slice ah m ch] 25))
  cases st with
  | true =>
    have HZ := hid (abs_bad (st := true) (pr := pr) (n := n) (m := m) (.inl rfl)).1
    go_enter Tryd.func89, Tryd.ntmps89
    go_wp2_with fail
    go_ret
    rw [HZ.out]
    exact ⟨rfl, HB.out⟩
  | false =>
    cases pr with
    | true =>
      have HZ := hid (abs_bad (st := false) (pr := true) (n := n) (m := m) (.inr (.inl rfl))).1
      go_enter Tryd.func89, Tryd.ntmps89
      go_wp2_with fail
      go_ret
      rw [HZ.out]
      exact ⟨rfl, HB.out⟩
    | false =>
      by_cases h1 : 0 < n
      · have HZ := hid (abs_bad (st := false) (pr := false) (n := n) (m := m) (.inr (.inr (.inl h1)))).1
        have k1 : (0 : Int) < (n : Int) := by omega
        go_enter Tryd.func89, Tryd.ntmps89
        go_wp2_with fail
        go_ret
        rw [HZ.out]
        exact ⟨rfl, HB.out⟩
      · obtain rfl : n = 0 := by omega
        by_cases h2 : 0 < m
        · have HZ := hid (abs_bad (st := false) (pr := false) (n := 0) (m := m) (.inr (.inr (.inr h2)))).1
          have k2 : (0 : Int) < (m : Int) := by omega
          clear h1
          go_enter Tryd.func89, Tryd.ntmps89
          go_wp2_with fail
          go_ret
          rw [HZ.out]
          exact ⟨rfl, HB.out⟩
        · obtain rfl : m = 0 := by omega
          have HZ := hid (abs_good (st := false) (pr := false) (n := 0) (m := 0) (by decide)).1
          clear h1 h2
          go_enter Tryd.func89, Tryd.ntmps89
          go_wp2_with fail
          go_ret
          rw [HZ.out]
          exact ⟨rfl, HB.out⟩

theorem loc_true {op : Int} (h : op = 4 ∨ op = 5) : locOp op = true := decide_eq_true h
theorem loc_false {op : Int} (h1 : ¬ op = 4) (h2 : ¬ op = 5) : ¬ locOp op = true := by unfold locOp; simp [h1, h2]

set_option maxRecDepth 100000 in
set_option maxHeartbeats 8000000 in
theorem body_act (nm ty : ByteArray) (st pr : Bool) (lo : Int) (vc vh : Value) (l : List I) (hs : List Hd) (w : World) (hc : Go.Proofs.YtklebfkbildifaaDoor.flows.Code w vc l) (hv : Hds w vh hs) (hf : FormsAt w) (hsm : SmallM ⟨nm, ty, st, false, pr, lo, vc, vh, l, hs⟩) :
    Calls Tryd.prog 89 #[.agg #[.string nm, .string ty, .bool st, .bool false, .bool pr, .int .i64 lo, vc, vh]] w fun e w' => e = .returned (errVal (bodyFault ⟨nm, ty, st, false, pr, lo, vc, vh, l, hs⟩)) ∧ Below w.heap.size w w' := by
  obtain ⟨ac, cc, rfl⟩ := hc.val
  obtain ⟨ah, ch, rfl⟩ := hv.val
  obtain ⟨W0, hW0⟩ : ∃ W0, w.alloc (.cells #[.string nm, .string ty, .bool st, .bool false, .bool pr, .int .i64 lo, .slice ac l.length cc, .slice ah hs.length ch] 25) = W0 := ⟨_, rfl⟩
  have HBX : Hid (W0.heap[w.heap.size]? = some (.cells #[.string nm, .string ty, .bool st, .bool false, .bool pr, .int .i64 lo, .slice ac l.length cc, .slice ah hs.length ch] 25)) := hid (by subst hW0; exact heap_alloc_new _ _)
  have HB0 : Hid (Below w.heap.size w W0 ∧ w.heap.size < W0.heap.size) := hid (by subst hW0; exact ⟨ext_alloc _ _, by rw [World.size_alloc]; exact Nat.lt_succ_self _⟩)
  have HSM := hid hsm
  have HC := hid hc
  have HV := hid hv
  have HLN := hid (show l.length ≤ 1048576 ∧ hs.length ≤ 1048576 ∧ ty.size ≤ 1048576 from ⟨hsm.len, hsm.hlen, hsm.ty⟩)
  have HFC := hid (fcheck_any (.slice ac l.length cc) l W0 (hc.below HB0.out.1) (hf.below HB0.out.1) hsm.code (by have := hsm.len; simp only at this; omega))
  obtain ⟨Z, hZ⟩ : ∃ Z, bodyFault ⟨nm, ty, st, false, pr, lo, .slice ac l.length cc, .slice ah hs.length ch, l, hs⟩ = Z := ⟨_, rfl⟩
  obtain ⟨A, hA⟩ : ∃ A, argsOf st ty.data.toList = A := ⟨_, rfl⟩
  have HZ : Hid ((if codeFault l ≠ 0 then codeFault l else if lo < A then 2 else if farLoc lo l = true then 2 else hdFault l.length hs) = Z) := hid (by rw [← hZ, ← hA]; rfl)
  rw [hZ]
  have HA := hid hA
  have hk3 : W0.cell? ⟨w.heap.size, 3, none⟩ = some (.bool false) := by rw [cell_of_row _ _ _ _ _ _ HBX.out]; rfl
  have hk6 : W0.cell? ⟨w.heap.size, 6, none⟩ = some (.slice ac l.length cc) := by rw [cell_of_row _ _ _ _ _ _ HBX.out]; rfl
  clear hc hv hf hsm hZ hA
  go_enter Tryd.func89, Tryd.ntmps89
  go_wp2_with fail
  refine HFC.out.mono ?_
  rintro e w2 ⟨rfl, hb2⟩
  have HBX2 := hid ((hb2.block _ HB0.out.2).trans HBX.out)
  have HB2 := hid (HB0.out.1.trans (hb2.mono HB0.out.1.size))
  have HW2 := hid (show w.heap.size < w2.heap.size from Nat.lt_of_lt_of_le HB0.out.2 hb2.size)
  clear hb2 hk3 hk6
  by_cases h0 : codeFault l = 0
  · rw [errVal_zero h0]
    have HZ1 : Hid ((if lo < A then 2 else if farLoc lo l = true then 2 else hdFault l.length hs) = Z) := hid (by have := HZ.out; rwa [if_neg (by omega)] at this)
    clear h0 hW0
    go_wp2_with fail
    refine wp_region_ext [(3, is (.int .i64 A))] ⟨is_stays _, trivial⟩ (by kernel_rfl) (by kernel_rfl) ?_
    refine wpG_calc 1 rfl rfl rfl (fun u => by go_simp; rfl) ?_
    simp only [Act.put, List.setIfInBounds_toArray, List.set_cons_zero, List.set_cons_succ]
    refine wpG_read 2 rfl rfl (.int .i64 lo) rfl ?_ ?_
    · intro u hu hh
      have hrow := (hu.block _ HW2.out).trans HBX2.out
      have hk5 : u.cell? ⟨w.heap.size, 5, none⟩ = some (.int .i64 lo) := by rw [cell_of_row _ _ _ _ _ _ hrow]; rfl
      go_simp
    simp only [Act.put, List.setIfInBounds_toArray, List.set_cons_zero, List.set_cons_succ]
    refine wpG_row 3 rfl rfl rfl 25 _ rfl w.heap.size rfl _ _ _ _ Tryd.underlying25 rfl (by kernel_rfl) (fun u hu => (hu.block _ HW2.out).trans HBX2.out) ?_
    simp only [Act.put, List.setIfInBounds_toArray, List.set_cons_zero, List.set_cons_succ]
    refine wpG_rel 4 rfl rfl rfl ?_ ?_
    · intro u hu hh
      go_simp
      refine (args_any nm ty st false pr lo ac l.length cc ah hs.length ch u (by have := HLN.out.2.2; omega)).mono ?_
      rintro e w6 ⟨rfl, hb6⟩
      exact ⟨_, rfl, by rw [HA.out]; rfl, hb6⟩
    intro v4 ⟨u4, _, hr4⟩
    obtain rfl : v4 = .int .i64 A := hr4
    simp only [Act.put, List.setIfInBounds_toArray, List.set_cons_zero, List.set_cons_succ]
    refine wpG_calc 5 rfl rfl rfl (fun u => by go_simp; rfl) ?_
    simp only [Act.put, List.setIfInBounds_toArray, List.set_cons_zero, List.set_cons_succ]
    refine wpG_nil fun w3 hb3 hF => ?_
    clear hF
    have HBX3 := hid ((hb3.block _ HW2.out).trans HBX2.out)
    have HB3 := hid (HB2.out.trans (hb3.mono HB2.out.size))
    have HW3 := hid (Nat.lt_of_lt_of_le HW2.out hb3.size)
    clear hb3
    by_cases h1 : lo < A
    · have HZ2 : Hid (Z = 2) := hid (by have := HZ1.out; rw [if_pos h1] at this; exact this.symm)
      go_wp2_with fail
      go_ret
      rw [HZ2.out]
      exact ⟨rfl, HB3.out⟩
    · have HZ2 : Hid ((if farLoc lo l = true then 2 else hdFault l.length hs) = Z) := hid (by have := HZ1.out; rwa [if_neg h1] at this)
      have hk6 : w3.cell? ⟨w.heap.size, 6, none⟩ = some (.slice ac l.length cc) := by rw [cell_of_row _ _ _ _ _ _ HBX3.out]; rfl
      go_wp2_with fail
      clear h1 hk6
      go_loopw [42] (fun i wr => ∃ k : Nat, k ≤ l.length ∧ i = .int .i64 k ∧ Hid (Below w3.heap.size w3 wr) ∧ Hid (farLoc lo l = farLoc lo (l.drop k))) (fun i _ => l.length - (intOf i).toNat)
      case atStart => exact ⟨0, Nat.zero_le _, rfl, hid (Below.refl _ _), hid rfl⟩
      case round =>
        obtain ⟨k, hk, rfl, HR, HP⟩ := hrel
        have hll : l.length ≤ 1048576 := HLN.out.1
        have HB4 := hid (HB3.out.trans (HR.out.mono HB3.out.size))
        by_cases hlt : k < l.length
        · obtain ⟨b, off, hab, hc0, hc1, hc2, hc3, hc4, hc5⟩ := code_at (HC.out.below HB4.out) hlt
          subst hab
          have hi : (0 : Int) ≤ (k : Int) := by omega
          have hkl : (k : Int) < (l.length : Int) := by omega
          have HOK := hid (fun h => HP.out.trans (far_ok (lo := lo) hlt h))
          have HNO := hid (fun h => HP.out.trans (far_no (lo := lo) hlt h))
          generalize l[k] = x at hc0 hc1 hc2 hc3 hc4 hc5 HOK HNO
          obtain ⟨op, xa, xb, t, xc, xn⟩ := x
          simp only at HOK HNO hc0 hc1 hc2 hc3 hc4 hc5
          have HE := hid (ext_alloc wr (.cells #[.int .i64 op, .int .i64 xa, .int .i64 xb, .string t, .string xc, .string xn] 33))
          have HB5 := hid (HB4.out.trans (HE.out.mono HB4.out.size))
          have HR5 := hid (HR.out.trans (HE.out.mono HR.out.size))
          have hk5 : (wr.alloc (.cells #[.int .i64 op, .int .i64 xa, .int .i64 xb, .string t, .string xc, .string xn] 33)).cell? ⟨w.heap.size, 5, none⟩ = some (.int .i64 lo) := by
            rw [cell_of_row _ _ _ _ _ _ ((HR5.out.block _ HW3.out).trans HBX3.out)]; rfl
          by_cases h4 : op = 4
          · subst h4
            by_cases hlo : lo ≤ xa
            · have HZ3 : Hid (Z = 2) := hid (by have := HZ2.out; rw [if_pos (HNO.out ⟨loc_true (.inl rfl), hlo⟩)] at this; exact this.symm)
              go_wp2_with fail
              go_ret
              rw [HZ3.out]
              exact ⟨rfl, HB5.out⟩
            · have HN := hid (HOK.out (fun h => hlo h.2))
              go_wp2_with fail
              go_roundw
              case rel => exact ⟨k + 1, by omega, by go_num, HR5, HN⟩
              case measure => simp [intOf]; omega
          · have n4 : (op == 4) = false := by simpa using h4
            by_cases h5 : op = 5
            · subst h5
              clear h4 n4
              by_cases hlo : lo ≤ xa
              · have HZ3 : Hid (Z = 2) := hid (by have := HZ2.out; rw [if_pos (HNO.out ⟨loc_true (.inr rfl), hlo⟩)] at this; exact this.symm)
                go_wp2_with fail
                go_ret
                rw [HZ3.out]
                exact ⟨rfl, HB5.out⟩
              · have HN := hid (HOK.out (fun h => hlo h.2))
                go_wp2_with fail
                go_roundw
                case rel => exact ⟨k + 1, by omega, by go_num, HR5, HN⟩
                case measure => simp [intOf]; omega
            · have n5 : (op == 5) = false := by simpa using h5
              have HN := hid (HOK.out (fun h => loc_false h4 h5 h.1))
              go_wp2_with fail
              go_roundw
              case rel => exact ⟨k + 1, by omega, by go_num, HR5, HN⟩
              case measure => simp [intOf]; omega
        · have HF : Hid (hdFault l.length hs = Z) := hid (by
            have h9 := HZ2.out
            rw [if_neg (by rw [HP.out, far_end hlt]; decide)] at h9
            exact h9)
          have HBX4 := hid ((HR.out.block _ HW3.out).trans HBX3.out)
          have HHD := hid (handlers_any nm ty st false pr lo ac l.length cc (.slice ah hs.length ch) hs wr (HV.out.below HB4.out) (fun h hh => by have := HSM.out.hs h hh; omega) (by have := HLN.out.2.1; omega))
          go_wp2_with (refine wpList_load_row rfl 25 (.tmp 1) rfl w.heap.size rfl _ _ _ _ HBX4.out Tryd.underlying25 rfl (by kernel_rfl) ?_)
          refine HHD.out.mono ?_
          rintro e w5 ⟨rfl, hb5⟩
          go_wp2_with fail
          go_ret
          rw [HF.out]
          exact ⟨rfl, HB4.out.trans (hb5.mono HB4.out.size)⟩
  · have HZ1 : Hid (Z = codeFault l) := hid (by have := HZ.out; rw [if_pos h0] at this; exact this.symm)
    have HE := hid (errVal_ne h0)
    rw [errVal_ne h0]
    clear h0
    go_wp2_with fail
    go_ret
    rw [HZ1.out, HE.out]
    exact ⟨rfl, HB2.out⟩

theorem body_any (m : MV) (w : World) (hm : m.At w) (hf : FormsAt w) (hsm : SmallM m) :
    Calls Tryd.prog 89 #[.agg m.cells.toArray] w fun e w' => e = .returned (errVal (bodyFault m)) ∧ Below w.heap.size w w' := by
  obtain ⟨nm, ty, st, ab, pr, lo, vc, vh, l, hs⟩ := m
  obtain ⟨hc, hv⟩ := hm
  cases ab with
  | false => exact body_act nm ty st pr lo vc vh l hs w hc hv hf hsm
  | true =>
    obtain ⟨ac, cc, h1⟩ := hc.val
    obtain ⟨ah, ch, h2⟩ := hv.val
    simp only at h1 h2
    subst h1 h2
    have h1 := hsm.len
    have h2 := hsm.hlen
    simp only at h1 h2
    have := body_abs nm ty st pr lo ac l.length cc ah hs.length ch w (by omega) (by omega)
    exact this
end Go.Proofs.YtklebfkbildifaaDoor.classes
