/- Classes: the reference's In and ClassFault. Condition: the class is not long. -/
import Derived.Maps.RangeWalk
import Derived.Test.YtlhobhnbgdicjaaGreatDoorZCls6
import Derived.Test.YtlhobhnbgdicjaaGreatDoorZHdl4
import Derived.Test.YtlhobhnbgdicjaaGreatDoorZFlow2
import Derived.Test.YtlhobhnbgdicjaaGreatDoorZGrow
import Derived.Deep.QuietTactic
import Derived.BigQuiet
import Derived.Deep.DeepCutAuto
namespace Go.Proofs.YtlhobhnbgdicjaaGreatDoor.classes
open Go.RowKit lib errs names descs ins flows hdls grow
theorem methodSaid_n {w w' : World} {S : List UInt8} {e : Ending} (hm : methodOf S = none) (h : MethodSaid w S e w') : e = .returned (.tuple #[.slice none 0 0, .string { data := #[] }, .bool false]) ∧ Below w.heap.size w w' := by
 unfold MethodSaid at h; rw [hm] at h; exact h
theorem methodSaid_s {w w' : World} {S g : List UInt8} {ts : List (List UInt8)} {e : Ending} (hm : methodOf S = some (ts, g)) (h : MethodSaid w S e w') : ∃ v, e = .returned (.tuple #[v, .string (bs g), .bool true]) ∧ Out w w' 9 1 v ts.length (ts.map sv) := by
 unfold MethodSaid at h; rw [hm] at h; exact h
theorem locOp_true {op : Int} (h : op = 4 ∨ op = 5) : locOp op = true := decide_eq_true h
theorem locOp_false {op : Int} (h1 : ¬ op = 4) (h2 : ¬ op = 5) : ¬ locOp op = true := by unfold locOp; simp [h1, h2]
set_option maxRecDepth 100000 in
set_option maxHeartbeats 8000000 in
theorem rmethod_any (m : MV) (va : Value) (ahead : List MV) (w : World) (hm : m.At w) (ha : Mets w va ahead) (hsm : SmallM m) (hn : ahead.length ≤ 1000000000000) :
  Calls Tryz.prog 52 #[.agg m.cells.toArray, va] w fun e w' => e = .returned (.int .i64 (metFault m ahead)) ∧ Below w.heap.size w w' := by
 obtain ⟨nm, ty, st, ab, pr, lo, vc, vh, l, hs⟩ := m
 obtain ⟨Z, hZ⟩ : ∃ Z, metFault ⟨nm, ty, st, ab, pr, lo, vc, vh, l, hs⟩ ahead = Z := ⟨_, rfl⟩
 obtain ⟨B, hB⟩ : ∃ B, bodyFault ⟨nm, ty, st, ab, pr, lo, vc, vh, l, hs⟩ = B := ⟨_, rfl⟩
 obtain ⟨A, hA⟩ : ∃ A, argsOf st ty.data.toList = A := ⟨_, rfl⟩
 have HZ : Hid ((if nameOk nm.data.toList = false then 1 else if methodOf ty.data.toList = none then 1 else if twin nm ty ahead = true then 5 else if lo < 0 ∨ 8 < lo then 2 else B) = Z) := hid (by rw [← hB]; exact hZ)
 have HB : Hid ((if ab = true then absFault st pr l.length hs.length else if codeFault l ≠ 0 then codeFault l else if lo < A then 2 else if farLoc lo l = true then 2 else hdFault l.length hs) = B) := hid (by rw [← hA]; exact hB)
 rw [hZ]
 have HA := hid hA
 have hnm : nm.size ≤ 1048576 := hsm.nm
 have hty : ty.size ≤ 1048576 := hsm.ty
 have hll : l.length ≤ 1048576 := hsm.len
 have hhl : hs.length ≤ 1048576 := hsm.hlen
 have HSC := hid hsm.code
 have HSH := hid hsm.hs
 obtain ⟨hc, hv⟩ := hm
 simp only [MV.cells] at hc hv HSC HSH ⊢
 obtain ⟨ac, cc, rfl⟩ := hc.val
 obtain ⟨ah, ch, rfl⟩ := hv.val
 obtain ⟨aa, ca, rfl⟩ := ha.sl.val
 obtain ⟨W0, hW0⟩ : ∃ W0, w.alloc (.cells #[.string nm, .string ty, .bool st, .bool ab, .bool pr, .int .i64 lo, .slice ac l.length cc, .slice ah hs.length ch] 92) = W0 := ⟨_, rfl⟩
 have HBX : Hid (W0.heap[w.heap.size]? = some (.cells #[.string nm, .string ty, .bool st, .bool ab, .bool pr, .int .i64 lo, .slice ac l.length cc, .slice ah hs.length ch] 92)) := hid (by subst hW0; exact heap_alloc_new _ _)
 have HB0 : Hid (Below w.heap.size w W0 ∧ w.heap.size < W0.heap.size) := hid (by subst hW0; exact ⟨ext_alloc _ _, by rw [World.size_alloc]; exact Nat.lt_succ_self _⟩)
 have HMA := hid ha
 have HC := hid hc
 have HV := hid hv
 have hk1 : W0.cell? ⟨w.heap.size, 1, none⟩ = some (.string ty) := by rw [cell_of_row _ _ _ _ _ _ HBX.out]; rfl
 clear hc hv hsm hZ hB hA ha
 go_enter Tryz.func52, Tryz.ntmps52
 go_wp2_with fail
 refine (methodOf_any ty _ (by omega)).mono ?_
 intro e w1 h1
 clear hk1
 cases hT : methodOf ty.data.toList with
 | none =>
  obtain ⟨rfl, hb1⟩ := methodSaid_n hT h1
  have HX1 := hid ((hb1.block _ HB0.out.2).trans HBX.out)
  have HB1 := hid (HB0.out.1.trans (hb1.mono HB0.out.1.size))
  have HZ1 : Hid (Z = 1) := hid (by have := HZ.out; rw [if_pos hT] at this; rw [← this]; split <;> rfl)
  have hk0 : w1.cell? ⟨w.heap.size, 0, none⟩ = some (.string nm) := by rw [cell_of_row _ _ _ _ _ _ HX1.out]; rfl
  clear h1 hT hW0 hb1
  go_wp2_with fail
  refine (isName_any nm _ (by omega)).mono ?_
  rintro e w2 ⟨rfl, rfl⟩
  cases hN : nameOk nm.data.toList with
  | false =>
   go_wp2_with fail
   go_ret
   rw [HZ1.out]
   exact ⟨rfl, HB1.out⟩
  | true =>
   go_wp2_with fail
   go_ret
   rw [HZ1.out]
   exact ⟨rfl, HB1.out⟩
 | some r =>
  obtain ⟨ts, g⟩ := r
  obtain ⟨v, rfl, ho⟩ := methodSaid_s hT h1
  have hts := few_args hT
  have HAT : Hid ((if st = true then (ts.length : Int) else (ts.length : Int) + 1) = A) := hid (by rw [← argsOf_some hT]; exact HA.out)
  have HZ1 : Hid ((if nameOk nm.data.toList = false then 1 else if twin nm ty ahead = true then 5 else if lo < 0 ∨ 8 < lo then 2 else B) = Z) := hid (by have := HZ.out; rw [hT, if_neg (fun h : (some (ts, g) = none) => by cases h)] at this; exact this)
  have HX1 := hid ((ho.below.block _ HB0.out.2).trans HBX.out)
  have HB1 := hid (HB0.out.1.trans (ho.below.mono HB0.out.1.size))
  have HL1 := hid (Nat.lt_of_lt_of_le HB0.out.2 ho.below.size)
  obtain ⟨av, cv, rfl⟩ := ho.sl.val
  have hk0 : w1.cell? ⟨w.heap.size, 0, none⟩ = some (.string nm) := by rw [cell_of_row _ _ _ _ _ _ HX1.out]; rfl
  clear h1 hT hW0 ho HZ HBX
  go_wp2_with fail
  refine (isName_any nm _ (by omega)).mono ?_
  rintro e w2 ⟨rfl, rfl⟩
  cases hN : nameOk nm.data.toList with
  | false =>
   have HZ2 : Hid (Z = 1) := hid (by have := HZ1.out; rw [if_pos hN] at this; exact this.symm)
   go_wp2_with fail
   go_ret
   rw [HZ2.out]
   exact ⟨rfl, HB1.out⟩
  | true =>
   have HZ2 : Hid ((if twin nm ty ahead = true then 5 else if lo < 0 ∨ 8 < lo then 2 else B) = Z) := hid (by have := HZ1.out; rw [if_neg (by rw [hN]; decide)] at this; exact this)
   clear hN hk0
   go_wp2_with fail
   go_loopw [8] (fun i wr => ∃ k : Nat, k ≤ ahead.length ∧ i = .int .i64 k ∧ Hid (Below w1.heap.size w1 wr) ∧ Hid (twin nm ty ahead = twin nm ty (ahead.drop k))) (fun i _ => ahead.length - (intOf i).toNat)
   case atStart => exact ⟨0, Nat.zero_le _, rfl, hid (Below.refl _ _), hid rfl⟩
   case round =>
    obtain ⟨k, hk, rfl, HR, HP⟩ := hrel
    have HBR := hid (HB1.out.trans (HR.out.mono HB1.out.size))
    have HXR := hid ((HR.out.block _ HL1.out).trans HX1.out)
    have HLR := hid (Nat.lt_of_lt_of_le HL1.out HR.out.size)
    by_cases hlt : k < ahead.length
    ·obtain ⟨bb, off, hab, hd0, hd1, _⟩ := met_at (HMA.out.below HBR.out) hlt
     subst hab
     have hi : (0 : Int) ≤ (k : Int) := by omega
     have hkl : (k : Int) < (ahead.length : Int) := by omega
     have HY := hid (fun h => HP.out.trans (twin_yes (nm := nm) (ty := ty) hlt h))
     have HN := hid (fun h => HP.out.trans (twin_no (nm := nm) (ty := ty) hlt h))
     generalize ahead[k] = x at hd0 hd1 HY HN
     obtain ⟨n2, t2, st2, ab2, pr2, lo2, vc2, vh2, code2, hs2⟩ := x
     simp only at hd0 hd1 HY HN
     have hk0 : wr.cell? ⟨w.heap.size, 0, none⟩ = some (.string nm) := by rw [cell_of_row _ _ _ _ _ _ HXR.out]; rfl
     have hk1 : wr.cell? ⟨w.heap.size, 1, none⟩ = some (.string ty) := by rw [cell_of_row _ _ _ _ _ _ HXR.out]; rfl
     by_cases h1 : n2 = nm
     ·have s1 := str_eqb h1
      by_cases h2 : t2 = ty
      ·have s2 := str_eqb h2
       have HZ3 : Hid (Z = 5) := hid (by have := HZ2.out; rw [if_pos (HY.out ⟨h1, h2⟩)] at this; exact this.symm)
       subst h1 h2
       clear s1 s2
       go_wp2_with fail
       go_quiet (fail)
       go_wp2_with fail
       go_ret
       rw [HZ3.out]
       exact ⟨rfl, below_drewN HBR.out _⟩
      ·have s2 := str_neb h2
       have s3 : ¬ t2.toList = ty.toList := by rw [beq_eq_false_iff_ne] at s2; exact s2
       have HP2 := hid (HN.out (fun h => h2 h.2))
       subst h1
       clear s1 h2
       go_wp2_with fail
       go_quiet (fail)
       go_wp2_with fail
       go_roundw
       case rel => exact ⟨k + 1, by omega, by go_num, hid (below_drewN HR.out _), HP2⟩
       case measure => simp [intOf]; omega
     ·have s1 := str_neb h1
      have s3 : ¬ n2.toList = nm.toList := by rw [beq_eq_false_iff_ne] at s1; exact s1
      have HP2 := hid (HN.out (fun h => h1 h.1))
      clear h1
      go_wp2_with fail
      go_quiet (fail)
      go_wp2_with fail
      go_roundw
      case rel => exact ⟨k + 1, by omega, by go_num, hid (below_drewN HR.out _), HP2⟩
      case measure => simp [intOf]; omega
    ·have HZ3 : Hid ((if lo < 0 ∨ 8 < lo then 2 else B) = Z) := hid (by have := HZ2.out; rw [if_neg (by rw [HP.out, twin_end hlt]; decide)] at this; exact this)
     have hge : ¬ (k : Int) < (ahead.length : Int) := by omega
     have hk5 : wr.cell? ⟨w.heap.size, 5, none⟩ = some (.int .i64 lo) := by rw [cell_of_row _ _ _ _ _ _ HXR.out]; rfl
     have hk3 : wr.cell? ⟨w.heap.size, 3, none⟩ = some (.bool ab) := by rw [cell_of_row _ _ _ _ _ _ HXR.out]; rfl
     clear HP hlt HZ1 HZ2 HMA
     by_cases h0 : lo < 0
     ·have HZ5 : Hid (Z = 2) := hid (by have := HZ3.out; rw [if_pos (.inl h0)] at this; exact this.symm)
      go_wp2_with fail
      go_ret
      rw [HZ5.out]
      exact ⟨rfl, HBR.out⟩
     by_cases h8 : 8 < lo
     ·have HZ5 : Hid (Z = 2) := hid (by have := HZ3.out; rw [if_pos (.inr h8)] at this; exact this.symm)
      go_wp2_with fail
      go_ret
      rw [HZ5.out]
      exact ⟨rfl, HBR.out⟩
     have HZ5 : Hid (B = Z) := hid (by have := HZ3.out; rw [if_neg (by omega)] at this; exact this)
     cases ab with
     | true =>
      have HBA : Hid (absFault st pr l.length hs.length = Z) := hid (by rw [← HZ5.out, ← HB.out, if_pos rfl])
      have hk2 : wr.cell? ⟨w.heap.size, 2, none⟩ = some (.bool st) := by rw [cell_of_row _ _ _ _ _ _ HXR.out]; rfl
      have hk4 : wr.cell? ⟨w.heap.size, 4, none⟩ = some (.bool pr) := by rw [cell_of_row _ _ _ _ _ _ HXR.out]; rfl
      have hk6 : wr.cell? ⟨w.heap.size, 6, none⟩ = some (.slice ac l.length cc) := by rw [cell_of_row _ _ _ _ _ _ HXR.out]; rfl
      have hk7 : wr.cell? ⟨w.heap.size, 7, none⟩ = some (.slice ah hs.length ch) := by rw [cell_of_row _ _ _ _ _ _ HXR.out]; rfl
      obtain ⟨n, hnl⟩ : ∃ n, l.length = n := ⟨_, rfl⟩
      obtain ⟨m, hml⟩ : ∃ m, hs.length = m := ⟨_, rfl⟩
      rw [hnl] at hk6 HBA hll
      rw [hml] at hk7 HBA hhl
      clear hnl hml
      cases st with
      | true =>
       have HZ6 : Hid (Z = 8) := hid (by rw [← HBA.out, (abs_bad (.inl rfl)).2])
       go_wp2_with fail
       go_ret
       rw [HZ6.out]
       exact ⟨rfl, HBR.out⟩
      | false =>
       cases pr with
       | true =>
        have HZ6 : Hid (Z = 8) := hid (by rw [← HBA.out, (abs_bad (.inr (.inl rfl))).2])
        go_wp2_with fail
        go_ret
        rw [HZ6.out]
        exact ⟨rfl, HBR.out⟩
       | false =>
        by_cases h1 : 0 < n
        ·have HZ6 : Hid (Z = 8) := hid (by rw [← HBA.out, (abs_bad (.inr (.inr (.inl h1)))).2])
         have k1 : (0 : Int) < (n : Int) := by omega
         go_wp2_with fail
         go_ret
         rw [HZ6.out]
         exact ⟨rfl, HBR.out⟩
        obtain rfl : n = 0 := by omega
        by_cases h2 : 0 < m
        ·have HZ6 : Hid (Z = 8) := hid (by rw [← HBA.out, (abs_bad (.inr (.inr (.inr h2)))).2])
         have k2 : (0 : Int) < (m : Int) := by omega
         clear h1
         go_wp2_with fail
         go_ret
         rw [HZ6.out]
         exact ⟨rfl, HBR.out⟩
        ·obtain rfl : m = 0 := by omega
         have HZ6 : Hid (Z = 0) := hid (by rw [← HBA.out]; rfl)
         clear h1 h2
         go_wp2_with fail
         go_ret
         rw [HZ6.out]
         exact ⟨rfl, HBR.out⟩
     | false =>
      have HZ6 : Hid ((if codeFault l ≠ 0 then codeFault l else if lo < A then 2 else if farLoc lo l = true then 2 else hdFault l.length hs) = Z) := hid (by rw [← HZ5.out, ← HB.out, if_neg (show ¬ (false = true) from by decide)])
      have hk6 : wr.cell? ⟨w.heap.size, 6, none⟩ = some (.slice ac l.length cc) := by rw [cell_of_row _ _ _ _ _ _ HXR.out]; rfl
      have HFC := hid (codeFault_any (.slice ac l.length cc) l wr (HC.out.below HBR.out) HSC.out (by omega))
      clear HZ5 HZ3 HB
      go_wp2_with fail
      refine HFC.out.mono ?_
      rintro e w3 ⟨rfl, hb3⟩
      have HX3 := hid ((hb3.block _ HLR.out).trans HXR.out)
      have HB3 := hid (HBR.out.trans (hb3.mono HBR.out.size))
      have HL3 := hid (Nat.lt_of_lt_of_le HLR.out hb3.size)
      clear hb3 hk3 hk5 hk6
      by_cases hcf : ¬ codeFault l = 0
      ·have HZ7 : Hid (Z = codeFault l) := hid (by have := HZ6.out; rw [if_pos hcf] at this; exact this.symm)
       generalize codeFault l = F at hcf HZ7
       have hcb : (F == 0) = false := by simpa using hcf
       have hcb2 : (F != 0) = true := by simpa using hcf
       go_wp2_with fail
       go_ret
       rw [HZ7.out]
       exact ⟨rfl, HB3.out⟩
      have hcf := Classical.not_not.1 hcf
      have HZ7 : Hid ((if lo < A then 2 else if farLoc lo l = true then 2 else hdFault l.length hs) = Z) := hid (by have := HZ6.out; rw [if_neg (by omega)] at this; exact this)
      rw [hcf]
      clear hcf HZ6 HFC
      have hk2 : w3.cell? ⟨w.heap.size, 2, none⟩ = some (.bool st) := by rw [cell_of_row _ _ _ _ _ _ HX3.out]; rfl
      go_upto_if 89 with (fail)
      go_cut [10] (fun s wx => s = .int .i64 A ∧ wx = w3)
      case first =>
       cases st with
       | true =>
        have HAA : Hid ((ts.length : Int) = A) := hid (by have := HAT.out; rwa [if_pos rfl] at this)
        go_wp2_with fail
        go_meet
        exact ⟨by rw [← HAA.out], rfl⟩
       | false =>
        have HAA : Hid ((ts.length : Int) + 1 = A) := hid (by have := HAT.out; rwa [if_neg (by decide)] at this)
        go_wp2_with fail
        go_meet
        exact ⟨by rw [← HAA.out], rfl⟩
      case rest =>
       obtain ⟨rfl, rfl⟩ := hcut
       have hk5 : wc.cell? ⟨w.heap.size, 5, none⟩ = some (.int .i64 lo) := by rw [cell_of_row _ _ _ _ _ _ HX3.out]; rfl
       clear hk2
       by_cases h1 : lo < A
       ·have HZ8 : Hid (Z = 2) := hid (by have := HZ7.out; rw [if_pos h1] at this; exact this.symm)
        go_wp2_with fail
        go_ret
        rw [HZ8.out]
        exact ⟨rfl, HB3.out⟩
       have HZ8 : Hid ((if farLoc lo l = true then 2 else hdFault l.length hs) = Z) := hid (by have := HZ7.out; rw [if_neg h1] at this; exact this)
       go_wp2_with fail
       clear h1 hk5 hk hge h0 h8
       go_loopw [11] (fun i wr => ∃ k : Nat, k ≤ l.length ∧ i = .int .i64 k ∧ Hid (Below wc.heap.size wc wr) ∧ Hid (farLoc lo l = farLoc lo (l.drop k))) (fun i _ => l.length - (intOf i).toNat)
       case atStart => exact ⟨0, Nat.zero_le _, rfl, hid (Below.refl _ _), hid rfl⟩
       case round =>
        obtain ⟨k2, hk2, rfl, HR4, HP4⟩ := hrel
        have HB4 := hid (HB3.out.trans (HR4.out.mono HB3.out.size))
        have HX4 := hid ((HR4.out.block _ HL3.out).trans HX3.out)
        have hk6 : wr.cell? ⟨w.heap.size, 6, none⟩ = some (.slice ac l.length cc) := by rw [cell_of_row _ _ _ _ _ _ HX4.out]; rfl
        by_cases hlt : k2 < l.length
        ·obtain ⟨b, off, hab, hc0, hc1, _⟩ := code_at (HC.out.below HB4.out) hlt
         subst hab
         have hi : (0 : Int) ≤ (k2 : Int) := by omega
         have hkl : (k2 : Int) < (l.length : Int) := by omega
         have HOK := hid (fun h => HP4.out.trans (far_ok (lo := lo) hlt h))
         have HNO := hid (fun h => HP4.out.trans (far_no (lo := lo) hlt h))
         generalize l[k2] = x at hc0 hc1 HOK HNO
         obtain ⟨op, xa, xb, t, xc, xn⟩ := x
         simp only at HOK HNO hc0 hc1
         have hk5 : wr.cell? ⟨w.heap.size, 5, none⟩ = some (.int .i64 lo) := by rw [cell_of_row _ _ _ _ _ _ HX4.out]; rfl
         have HNQ := hid (fun n => hid (below_drewN HR4.out n))
         by_cases h4 : op = 4
         ·subst h4
          by_cases hlo : lo ≤ xa
          ·have HZ9 : Hid (Z = 2) := hid (by have := HZ8.out; rw [if_pos (HNO.out ⟨locOp_true (.inl rfl), hlo⟩)] at this; exact this.symm)
           go_wp2_with fail
           go_quiet (fail)
           go_wp2_with fail
           go_ret
           rw [HZ9.out]
           exact ⟨rfl, below_drewN HB4.out _⟩
          ·have HN := hid (HOK.out (fun h => hlo h.2))
           go_wp2_with fail
           go_quiet (fail)
           go_wp2_with fail
           go_roundw
           case rel => exact ⟨k2 + 1, by omega, by go_num, HNQ.out _, HN⟩
           case measure => simp [intOf]; omega
         ·have n4 : (op == 4) = false := by simpa using h4
          by_cases h5 : op = 5
          ·subst h5
           clear h4 n4
           by_cases hlo : lo ≤ xa
           ·have HZ9 : Hid (Z = 2) := hid (by have := HZ8.out; rw [if_pos (HNO.out ⟨locOp_true (.inr rfl), hlo⟩)] at this; exact this.symm)
            go_wp2_with fail
            go_quiet (fail)
            go_wp2_with fail
            go_ret
            rw [HZ9.out]
            exact ⟨rfl, below_drewN HB4.out _⟩
           ·have HN := hid (HOK.out (fun h => hlo h.2))
            go_wp2_with fail
            go_quiet (fail)
            go_wp2_with fail
            go_roundw
            case rel => exact ⟨k2 + 1, by omega, by go_num, HNQ.out _, HN⟩
            case measure => simp [intOf]; omega
          ·have n5 : (op == 5) = false := by simpa using h5
           have HN := hid (HOK.out (fun h => locOp_false h4 h5 h.1))
           go_wp2_with fail
           go_quiet (fail)
           go_wp2_with fail
           go_roundw
           case rel => exact ⟨k2 + 1, by omega, by go_num, HNQ.out _, HN⟩
           case measure => simp [intOf]; omega
        ·have HZ9 : Hid (hdFault l.length hs = Z) := hid (by
          have h9 := HZ8.out
          rw [if_neg (by rw [HP4.out, far_end hlt]; decide)] at h9
          exact h9)
         have hge : ¬ (k2 : Int) < (l.length : Int) := by omega
         have hk7 : wr.cell? ⟨w.heap.size, 7, none⟩ = some (.slice ah hs.length ch) := by rw [cell_of_row _ _ _ _ _ _ HX4.out]; rfl
         have HHD := hid (rhandlers_any l.length (.slice ah hs.length ch) hs wr (HV.out.below HB4.out) (fun h hh => by have := HSH.out h hh; omega) (by omega))
         clear hlt
         go_wp2_with fail
         refine HHD.out.mono ?_
         rintro e w5 ⟨rfl, hb5⟩
         go_wp2_with fail
         go_ret
         rw [HZ9.out]
         exact ⟨rfl, HB4.out.trans (hb5.mono HB4.out.size)⟩
end Go.Proofs.YtlhobhnbgdicjaaGreatDoor.classes
namespace Go.Proofs.YtlhobhnbgdicjaaGreatDoor.classes
open Go.RowKit lib errs names descs ins flows hdls grow
set_option maxRecDepth 100000 in
set_option maxHeartbeats 2000000 in
theorem rin_any (a : Option Addr) (n c : Nat) (l : List ByteArray) (s : ByteArray) (w : World) (ha : Sl w (.slice a n c) n 1 (l.map .string)) (hn : n ≤ 1000000000000) :
  Calls Tryz.prog 35 #[.slice a n c, .string s] w fun e w' => e = .returned (.bool (inTexts s l)) ∧ w = w' := by
 have hl : l.length = n := by have := ha.1; simpa using this
 subst hl
 have HA := hid ha
 clear ha
 go_enter Tryz.func35, Tryz.ntmps35
 go_wp2_with fail
 go_loop [5] (fun i => ∃ k : Nat, k ≤ l.length ∧ i = .int .i64 k ∧ Hid (inTexts s l = inTexts s (l.drop k))) (fun i => l.length - (intOf i).toNat)
 case atStart => exact ⟨0, Nat.zero_le _, rfl, hid rfl⟩
 case round =>
  obtain ⟨k, hk, rfl, HP⟩ := hrel
  by_cases hlt : k < l.length
  ·obtain ⟨b, off, hab, hc0⟩ := text_at HA.out hlt
   subst hab
   have hi : (0 : Int) ≤ (k : Int) := by omega
   have hkl : (k : Int) < (l.length : Int) := by omega
   have HY := hid (fun h => HP.out.trans (inT_yes (s := s) hlt h))
   have HN := hid (fun h => HP.out.trans (inT_no (s := s) hlt h))
   generalize l[k] = x at hc0 HY HN
   by_cases h1 : x = s
   ·have HZ := hid (HY.out h1)
    subst h1
    go_wp2_with fail
    go_ret
    rw [HZ.out]
    exact ⟨rfl, rfl⟩
   ·have s1 := str_neb h1
    have s3 : ¬ x.toList = s.toList := by rw [beq_eq_false_iff_ne] at s1; exact s1
    have HP2 := hid (HN.out h1)
    clear h1
    go_wp2_with fail
    go_round
    case rel => exact ⟨k + 1, by omega, by go_num, HP2⟩
    case measure => simp [intOf]; omega
  ·have HZ : Hid (inTexts s l = false) := hid (HP.out.trans (inT_end hlt))
   have hge : ¬ (k : Int) < (l.length : Int) := by omega
   go_wp2_with fail
   go_ret
   rw [HZ.out]
   exact ⟨rfl, rfl⟩
set_option maxRecDepth 100000 in
set_option maxHeartbeats 16000000 in
theorem rcls_any (c : CV) (w : World) (hc : c.At w) (hsm : SmallC c) :
  Calls Tryz.prog 32 #[.agg c.cells.toArray] w fun e w' => e = .returned (.int .i64 (clsFault c)) ∧ Below w.heap.size w w' := by
 obtain ⟨nm, sup, vf, face, vd, vm, faces, fields, mets⟩ := c
 obtain ⟨Z, hZ⟩ : ∃ Z, clsFault ⟨nm, sup, vf, face, vd, vm, faces, fields, mets⟩ = Z := ⟨_, rfl⟩
 obtain ⟨HD, hHD⟩ : ∃ HD, headBad ⟨nm, sup, vf, face, vd, vm, faces, fields, mets⟩ = HD := ⟨_, rfl⟩
 obtain ⟨FB, hFB⟩ : ∃ FB, firstBad faceFault [] faces = FB := ⟨_, rfl⟩
 obtain ⟨DB, hDB⟩ : ∃ DB, firstBad fieldFault [] fields = DB := ⟨_, rfl⟩
 obtain ⟨MB, hMB⟩ : ∃ MB, firstBad metFault [] mets = MB := ⟨_, rfl⟩
 obtain ⟨BG, hBG⟩ : ∃ BG, decide (8 < faces.length ∨ 8 < fields.length ∨ 8 < mets.length) = BG := ⟨_, rfl⟩
 have HZ : Hid ((if HD = true then 1 else if FB ≠ 0 then FB else if BG = true then 4 else if DB ≠ 0 then DB else if MB ≠ 0 then MB else if face = true ∧ 0 < fields.length then 8 else 0) = Z) := hid (by
  rw [← hZ, ← hHD, ← hFB, ← hBG, ← hDB, ← hMB]; unfold clsFault; simp only [decide_eq_true_eq])
 rw [hZ]
 have HHD := hid hHD
 have HFB := hid hFB
 have HDB := hid hDB
 have HMB := hid hMB
 have HBG := hid hBG
 have hnm : nm.size ≤ 1048576 := hsm.nm
 have hsup : sup.size ≤ 1048576 := hsm.sup
 have hl1 : faces.length ≤ 1048576 := hsm.flen
 have hl2 : fields.length ≤ 1048576 := hsm.dlen
 have hl3 : mets.length ≤ 1048576 := hsm.mlen
 obtain ⟨h1, h2, h3⟩ := hc
 simp only [CV.cells] at h1 h2 h3 ⊢
 obtain ⟨af, cf, rfl⟩ := h1.val
 obtain ⟨ad, cd, rfl⟩ := h2.val
 obtain ⟨am, cm, rfl⟩ := h3.sl.val
 obtain ⟨W0, hW0⟩ : ∃ W0, w.alloc (.cells #[.string nm, .string sup, .slice af faces.length cf, .bool face, .slice ad fields.length cd, .slice am mets.length cm] 74) = W0 := ⟨_, rfl⟩
 have HBX : Hid (W0.heap[w.heap.size]? = some (.cells #[.string nm, .string sup, .slice af faces.length cf, .bool face, .slice ad fields.length cd, .slice am mets.length cm] 74)) := hid (by subst hW0; exact heap_alloc_new _ _)
 have HB0 : Hid (Below w.heap.size w W0 ∧ w.heap.size < W0.heap.size) := hid (by subst hW0; exact ⟨ext_alloc _ _, by rw [World.size_alloc]; exact Nat.lt_succ_self _⟩)
 have H1 := hid h1
 have H2 := hid h2
 have H3 := hid h3
 have HSM := hid hsm
 have HSM2 := hid hsm.fields
 have HSM3 := hid hsm.mets
 have hcf : faces.length ≤ cf := h1.cap.2
 have hcd : fields.length ≤ cd := h2.cap.2
 have hcm : mets.length ≤ cm := h3.sl.cap.2
 clear h1 h2 h3 hsm hZ hHD hFB hDB hMB hBG
 go_enter Tryz.func32, Tryz.ntmps32
 go_upto_region 1 with (fail)
 go_cut [22] (fun s wx => s = .bool HD ∧ wx = W0)
 case first =>
  have hk0 : W0.cell? ⟨w.heap.size, 0, none⟩ = some (.string nm) := by rw [cell_of_row _ _ _ _ _ _ HBX.out]; rfl
  have hk1 : W0.cell? ⟨w.heap.size, 1, none⟩ = some (.string sup) := by rw [cell_of_row _ _ _ _ _ _ HBX.out]; rfl
  cases hN : nameOk nm.data.toList with
  | false =>
   have HD1 : Hid (HD = true) := hid (by rw [← HHD.out]; unfold headBad; rw [if_pos hN])
   have HN := hid hN
   clear hN
   go_wp2_with fail
   refine (isName_any nm _ (by omega)).mono ?_
   rintro e w1 ⟨rfl, rfl⟩
   rw [HN.out]
   go_wp2_with fail
   go_meet
   exact ⟨by rw [HD1.out], rfl⟩
  | true =>
   have HN := hid hN
   by_cases hs : sup.data.toList = []
   ·have HD1 : Hid (HD = false) := hid (by rw [← HHD.out]; unfold headBad; rw [if_neg (by rw [hN]; decide), if_pos hs])
    have e1 : sup.toList.isEmpty = true := by rw [ByteArray.toList_eq, hs]; rfl
    have e2 : sup.toList = [] := by rw [ByteArray.toList_eq, hs]
    clear hN hs
    go_wp2_with fail
    refine (isName_any nm _ (by omega)).mono ?_
    rintro e w1 ⟨rfl, rfl⟩
    rw [HN.out]
    go_wp2_with fail
    go_meet
    exact ⟨by rw [HD1.out], rfl⟩
   ·have HD1 : Hid (HD = !nameOk sup.data.toList) := hid (by rw [← HHD.out]; unfold headBad; rw [if_neg (by rw [hN]; decide), if_neg hs])
    have e1 : sup.toList.isEmpty = false := by
     rw [ByteArray.toList_eq]
     cases h : sup.data.toList with
     | nil => exact absurd h hs
     | cons a b => rfl
    have e2 : ¬ sup.toList = [] := by rw [ByteArray.toList_eq]; exact hs
    have e3 : (!sup.toList.isEmpty) = true := by rw [e1]; rfl
    clear hN hs
    go_wp2_with fail
    refine (isName_any nm _ (by omega)).mono ?_
    rintro e w1 ⟨rfl, rfl⟩
    rw [HN.out]
    go_wp2_with fail
    refine (isName_any sup _ (by omega)).mono ?_
    rintro e w2 ⟨rfl, rfl⟩
    cases hS : nameOk sup.data.toList with
    | false =>
     have HD2 : Hid (HD = true) := hid (by rw [HD1.out, hS]; rfl)
     clear hS
     go_wp2_with fail
     go_meet
     exact ⟨by rw [HD2.out], rfl⟩
    | true =>
     have HD2 : Hid (HD = false) := hid (by rw [HD1.out, hS]; rfl)
     clear hS
     go_wp2_with fail
     go_meet
     exact ⟨by rw [HD2.out], rfl⟩
 case rest =>
  obtain ⟨rfl, hwx⟩ := hcut
  obtain rfl := hwx.symm
  cases HD with
  | true =>
   have HZ1 : Hid (Z = 1) := hid (by have := HZ.out; rw [if_pos rfl] at this; exact this.symm)
   go_wp2_with fail
   go_ret
   rw [HZ1.out]
   exact ⟨rfl, HB0.out.1⟩
  | false =>
   have HZ1 : Hid ((if FB ≠ 0 then FB else if BG = true then 4 else if DB ≠ 0 then DB else if MB ≠ 0 then MB else if face = true ∧ 0 < fields.length then 8 else 0) = Z) := hid (by have := HZ.out; rw [if_neg (by decide)] at this; exact this)
   go_wp2_with fail
   clear HZ HHD hW0
   go_loopw [3] (fun i wr => ∃ k : Nat, k ≤ faces.length ∧ i = .int .i64 k ∧ Hid (Below W0.heap.size W0 wr) ∧ Hid (FB = firstBad faceFault (faces.take k) (faces.drop k))) (fun i _ => faces.length - (intOf i).toNat)
   case atStart => exact ⟨0, Nat.zero_le _, rfl, hid (Below.refl _ _), hid HFB.out.symm⟩
   case round =>
    obtain ⟨k, hk, rfl, HR, HP⟩ := hrel
    have HBR := hid (HB0.out.1.trans (HR.out.mono HB0.out.1.size))
    have HXR := hid ((HR.out.block _ HB0.out.2).trans HBX.out)
    have HLR := hid (Nat.lt_of_lt_of_le HB0.out.2 HR.out.size)
    have hk2 : wr.cell? ⟨w.heap.size, 2, none⟩ = some (.slice af faces.length cf) := by rw [cell_of_row _ _ _ _ _ _ HXR.out]; rfl
    by_cases hlt : k < faces.length
    ·have HSL := hid (H1.out.below HBR.out)
     obtain ⟨b, off, hab, hc0⟩ := text_at HSL.out hlt
     subst hab
     have hi : (0 : Int) ≤ (k : Int) := by omega
     have hkl : (k : Int) < (faces.length : Int) := by omega
     have hkc : (k : Int) ≤ (cf : Int) := by omega
     have hsz := HSM.out.faces _ (List.getElem_mem hlt)
     have HT := hid (HSL.out.take k (by omega))
     rw [Nat.mul_one, ← List.map_take] at HT
     have HOK := hid (fun h => HP.out.trans (fb_ok (f := faceFault) hlt h))
     have HNO := hid (fun h => HP.out.trans (fb_no (f := faceFault) hlt h))
     generalize faces[k] = x at hc0 hsz HOK HNO
     cases hN : nameOk x.data.toList with
     | false =>
      have HZ2 : Hid (Z = 1) := hid (by
       have h1 := HNO.out (by rw [face1 hN]; decide)
       rw [face1 hN] at h1
       have := HZ1.out; rw [h1, if_pos (by decide)] at this; exact this.symm)
      have HN := hid hN
      clear hN
      go_wp2_with fail
      refine (isName_any x _ (by omega)).mono ?_
      rintro e w1 ⟨rfl, rfl⟩
      rw [HN.out]
      go_wp2_with fail
      go_ret
      rw [HZ2.out]
      exact ⟨rfl, HBR.out⟩
     | true =>
      have HN := hid hN
      clear hN
      go_wp2_with fail
      refine (isName_any x _ (by omega)).mono ?_
      rintro e w1 ⟨rfl, rfl⟩
      rw [HN.out]
      go_wp2_with fail
      refine wp_region_ext [(9, is (.bool (inTexts x (faces.take k))))] ⟨is_stays _, trivial⟩ (by kernel_rfl) (by kernel_rfl) ?_
      refine wpG_calc 1 rfl rfl rfl (fun u => by go_simp; rfl) ?_
      go_frame
      refine wpG_read 2 rfl rfl (.slice (some ⟨b, off, none⟩) faces.length cf) rfl ?_ ?_
      ·intro u hu hh
       have hk2 : u.cell? ⟨w.heap.size, 2, none⟩ = some (.slice (some ⟨b, off, none⟩) faces.length cf) := by rw [cell_of_row _ _ _ _ _ _ ((hu.block _ HLR.out).trans HXR.out)]; rfl
       go_simp
      go_frame
      refine wpG_calc 3 rfl rfl rfl (fun u => by go_simp; rfl) ?_
      go_frame
      refine wpG_calc 4 rfl rfl rfl (fun u => by go_simp; rfl) ?_
      go_frame
      refine wpG_calc 5 rfl rfl rfl (fun u => by go_simp; rfl) ?_
      go_frame
      refine wpG_read 6 rfl rfl (.slice (some ⟨b, off, none⟩) faces.length cf) rfl ?_ ?_
      ·intro u hu hh
       have hk2 : u.cell? ⟨w.heap.size, 2, none⟩ = some (.slice (some ⟨b, off, none⟩) faces.length cf) := by rw [cell_of_row _ _ _ _ _ _ ((hu.block _ HLR.out).trans HXR.out)]; rfl
       go_simp
      go_frame
      refine wpG_calc 7 rfl rfl rfl (fun u => by go_simp; rfl) ?_
      go_frame
      refine wpG_calc 8 rfl rfl rfl (fun u => by go_simp; rfl) ?_
      go_frame
      refine wpG_read 9 rfl rfl (.string x) rfl ?_ ?_
      ·intro u hu hh
       have hc1 : u.cell? ⟨b, off + k, none⟩ = some (.string x) := by rw [hu.cell (World.block_lt_of_cell? _ _ hc0)]; exact hc0
       go_simp
      go_frame
      refine wpG_rel 10 rfl rfl rfl ?_ ?_
      ·intro u hu hh
       go_simp
       refine (rin_any (some ⟨b, off, none⟩) k cf (faces.take k) x u (HT.out.below hu) (by omega)).mono ?_
       rintro e w6 ⟨rfl, rfl⟩
       exact ⟨_, rfl, rfl, Below.refl _ _⟩
      intro v6 ⟨u6, _, hr6⟩
      obtain rfl : v6 = .bool (inTexts x (faces.take k)) := hr6
      go_frame
      refine wpG_nil fun w6 hb6 hF => ?_
      clear hF
      have HB6 := hid (HBR.out.trans (hb6.mono HBR.out.size))
      have HR6 := hid (HR.out.trans (hb6.mono HR.out.size))
      clear hb6 hk2
      cases hW : inTexts x (faces.take k) with
      | true =>
       have HZ2 : Hid (Z = 5) := hid (by
        have h1 := HNO.out (by rw [face5 HN.out hW]; decide)
        rw [face5 HN.out hW] at h1
        have := HZ1.out; rw [h1, if_pos (by decide)] at this; exact this.symm)
       clear hW
       go_wp2_with fail
       go_ret
       rw [HZ2.out]
       exact ⟨rfl, HB6.out⟩
      | false =>
       have HP2 := hid (HOK.out (face0 HN.out hW))
       clear hW
       go_wp2_with fail
       go_roundw
       case rel => exact ⟨k + 1, by omega, by go_num, HR6, HP2⟩
       case measure => simp [intOf]; omega
    ·have HZ2 : Hid ((if BG = true then 4 else if DB ≠ 0 then DB else if MB ≠ 0 then MB else if face = true ∧ 0 < fields.length then 8 else 0) = Z) := hid (by
      have h1 := HP.out.trans (fb_end hlt)
      have := HZ1.out; rw [if_neg (by rw [h1]; decide)] at this; exact this)
     have hge : ¬ (k : Int) < (faces.length : Int) := by omega
     clear HP hlt HZ1 HFB HSM
     have hk4 : wr.cell? ⟨w.heap.size, 4, none⟩ = some (.slice ad fields.length cd) := by rw [cell_of_row _ _ _ _ _ _ HXR.out]; rfl
     have hk5 : wr.cell? ⟨w.heap.size, 5, none⟩ = some (.slice am mets.length cm) := by rw [cell_of_row _ _ _ _ _ _ HXR.out]; rfl
     by_cases b1 : 8 < faces.length
     ·have HZ3 : Hid (Z = 4) := hid (by have := HZ2.out; rw [if_pos (by rw [← HBG.out]; exact decide_eq_true (.inl b1))] at this; exact this.symm)
      have b1i : (8 : Int) < (faces.length : Int) := by omega
      go_wp2_with fail
      go_ret
      rw [HZ3.out]
      exact ⟨rfl, HBR.out⟩
     have c1 : ¬ (8 : Int) < (faces.length : Int) := by omega
     by_cases b2 : 8 < fields.length
     ·have HZ3 : Hid (Z = 4) := hid (by have := HZ2.out; rw [if_pos (by rw [← HBG.out]; exact decide_eq_true (.inr (.inl b2)))] at this; exact this.symm)
      have b2i : (8 : Int) < (fields.length : Int) := by omega
      go_wp2_with fail
      go_ret
      rw [HZ3.out]
      exact ⟨rfl, HBR.out⟩
     have c2 : ¬ (8 : Int) < (fields.length : Int) := by omega
     by_cases b3 : 8 < mets.length
     ·have HZ3 : Hid (Z = 4) := hid (by have := HZ2.out; rw [if_pos (by rw [← HBG.out]; exact decide_eq_true (.inr (.inr b3)))] at this; exact this.symm)
      have b3i : (8 : Int) < (mets.length : Int) := by omega
      go_wp2_with fail
      go_ret
      rw [HZ3.out]
      exact ⟨rfl, HBR.out⟩
     have c3 : ¬ (8 : Int) < (mets.length : Int) := by omega
     have HZ3 : Hid ((if DB ≠ 0 then DB else if MB ≠ 0 then MB else if face = true ∧ 0 < fields.length then 8 else 0) = Z) := hid (by have := HZ2.out; rw [if_neg (by rw [← HBG.out]; simp; omega)] at this; exact this)
     go_wp2_with fail
     clear hk2 hk4 hk5 HZ2 c1 c2 c3 b1 b2 b3 hge hk
     obtain ⟨W2, hW2⟩ : ∃ W2, W2 = wr := ⟨_, rfl⟩
     subst hW2
     go_loopw [4, 5] (fun i _ wr => ∃ k : Nat, k ≤ fields.length ∧ i = .int .i64 k ∧ Hid (Below W2.heap.size W2 wr) ∧ Hid (DB = firstBad fieldFault (fields.take k) (fields.drop k))) (fun i _ _ => fields.length - (intOf i).toNat)
     case atStart => exact ⟨0, Nat.zero_le _, rfl, hid (Below.refl _ _), hid HDB.out.symm⟩
     case round =>
      obtain ⟨k2, hk2, rfl, HR2, HP2⟩ := hrel
      have HBR2 := hid (HBR.out.trans (HR2.out.mono HBR.out.size))
      have HXR2 := hid ((HR2.out.block _ HLR.out).trans HXR.out)
      have HLR2 := hid (Nat.lt_of_lt_of_le HLR.out HR2.out.size)
      have hk4 : wr.cell? ⟨w.heap.size, 4, none⟩ = some (.slice ad fields.length cd) := by rw [cell_of_row _ _ _ _ _ _ HXR2.out]; rfl
      by_cases hlt : k2 < fields.length
      ·have HSL := hid (H2.out.below HBR2.out)
       obtain ⟨b, off, hab, hc0, hc1⟩ := fd_at HSL.out hlt
       subst hab
       have hi : (0 : Int) ≤ (k2 : Int) := by omega
       have hkl : (k2 : Int) < (fields.length : Int) := by omega
       have hsz := HSM2.out _ (List.getElem_mem hlt)
       have HOK := hid (fun h => HP2.out.trans (fb_ok (f := fieldFault) hlt h))
       have HNO := hid (fun h => HP2.out.trans (fb_no (f := fieldFault) hlt h))
       have HTL : Hid ((fields.take k2).length = k2) := hid (by rw [List.length_take]; omega)
       generalize fields[k2] = x at hc0 hc1 hsz HOK HNO
       obtain ⟨fn, ft⟩ := x
       simp only at hc0 hc1 hsz
       obtain ⟨hz1, hz2⟩ := hsz
       cases hN : nameOk fn.data.toList with
       | false =>
        have HZ4 : Hid (Z = 1) := hid (by
         have h1 := HNO.out (by rw [field1 hN]; decide)
         rw [field1 hN] at h1
         have := HZ3.out; rw [h1, if_pos (by decide)] at this; exact this.symm)
        have HN := hid hN
        clear hN
        go_wp2_with fail
        refine (isName_any fn _ (by omega)).mono ?_
        rintro e w1 ⟨rfl, rfl⟩
        rw [HN.out]
        go_wp2_with fail
        go_ret
        rw [HZ4.out]
        exact ⟨rfl, HBR2.out⟩
       | true =>
        have HN := hid hN
        clear hN
        go_wp2_with fail
        refine (isName_any fn _ (by omega)).mono ?_
        rintro e w1 ⟨rfl, rfl⟩
        rw [HN.out]
        go_wp2_with fail
        refine (isType_any ft _ (by omega)).mono ?_
        rintro e w2 ⟨rfl, rfl⟩
        cases hT : isTy ft.data.toList with
        | false =>
         have HZ4 : Hid (Z = 1) := hid (by
          have h1 := HNO.out (by rw [field1t HN.out hT]; decide)
          rw [field1t HN.out hT] at h1
          have := HZ3.out; rw [h1, if_pos (by decide)] at this; exact this.symm)
         clear hT
         go_wp2_with fail
         go_ret
         rw [HZ4.out]
         exact ⟨rfl, HBR2.out⟩
        | true =>
         have HTY := hid hT
         clear hT
         go_wp2_with fail
         obtain ⟨W3, hW3⟩ : ∃ W3, W3 = wr := ⟨_, rfl⟩
         subst hW3
         clear hk4
         go_loopw [5] (fun i wr => ∃ j : Nat, j ≤ k2 ∧ i = .int .i64 j ∧ Hid (Below W3.heap.size W3 wr) ∧ Hid (inFds fn (fields.take k2) = inFds fn ((fields.take k2).drop j))) (fun i _ => k2 - (intOf i).toNat)
         case atStart => exact ⟨0, Nat.zero_le _, rfl, hid (Below.refl _ _), hid rfl⟩
         case round =>
          obtain ⟨j, hj, rfl, HR4, HP4⟩ := hrel
          have HBR4 := hid (HBR2.out.trans (HR4.out.mono HBR2.out.size))
          have HXR4 := hid ((HR4.out.block _ HLR2.out).trans HXR2.out)
          have HRN := hid (fun n => hid (HR2.out.trans ((below_drewN HR4.out n).mono HR2.out.size)))
          have HRS := hid (HR2.out.trans (HR4.out.mono HR2.out.size))
          by_cases hjk : j < k2
          ·have hjl : j < (fields.take k2).length := by rw [HTL.out]; exact hjk
           have hjf : j < fields.length := by omega
           obtain ⟨b2, off2, hab2, hd0, hdX⟩ := fd_at (HSL.out.below HR4.out) hjf
           clear hdX
           simp only [Option.some.injEq, Addr.mk.injEq] at hab2
           obtain ⟨rfl, rfl, _⟩ := hab2
           have hj0 : (0 : Int) ≤ (j : Int) := by omega
           have hjk2 : (j : Int) < (k2 : Int) := by omega
           have hjf2 : (j : Int) < (fields.length : Int) := by omega
           have hk4 : wr.cell? ⟨w.heap.size, 4, none⟩ = some (.slice (some ⟨b, off, none⟩) fields.length cd) := by rw [cell_of_row _ _ _ _ _ _ HXR4.out]; rfl
           have hc2 : wr.cell? ⟨b, off + k2 * 2, none⟩ = some (.string fn) := by rw [HR4.out.cell (World.block_lt_of_cell? _ _ hc0)]; exact hc0
           have HY := hid (fun h => HP4.out.trans (inF_yes (s := fn) hjl h))
           have HNN := hid (fun h => HP4.out.trans (inF_no (s := fn) hjl h))
           rw [List.getElem_take] at HY HNN
           generalize fields[j] = y at hd0 HY HNN
           obtain ⟨yn, yt⟩ := y
           simp only at hd0 HY HNN
           clear hjl hjf
           by_cases h1 : yn = fn
           ·have HZ4 : Hid (Z = 5) := hid (by
             have hW := HY.out h1
             have h1 := HNO.out (by rw [field5 HN.out HTY.out hW]; decide)
             rw [field5 HN.out HTY.out hW] at h1
             have := HZ3.out; rw [h1, if_pos (by decide)] at this; exact this.symm)
            subst h1
            go_wp2_with fail
            go_quiet (fail)
            go_wp2_with fail
            go_ret
            rw [HZ4.out]
            exact ⟨rfl, below_drewN HBR4.out _⟩
           ·have s1 := str_neb h1
            have s3 : ¬ yn.toList = fn.toList := by rw [beq_eq_false_iff_ne] at s1; exact s1
            have HP5 := hid (HNN.out h1)
            have HR5 := hid (fun n => hid (below_drewN HR4.out n))
            clear h1
            go_wp2_with fail
            go_quiet (fail)
            go_wp2_with fail
            go_roundw
            case rel => exact ⟨j + 1, by omega, by go_num, HR5.out _, HP5⟩
            case measure => simp [intOf]; omega
          ·have HP3 := hid (HOK.out (field0 HN.out HTY.out (HP4.out.trans (inF_end (by rw [HTL.out]; exact hjk)))))
           have hge : ¬ (j : Int) < (k2 : Int) := by omega
           go_wp2_with fail
           go_roundw
           case rel => exact ⟨k2 + 1, by omega, by go_num, HRS, HP3⟩
           case measure => simp [intOf]; omega
      ·have HZ4 : Hid ((if MB ≠ 0 then MB else if face = true ∧ 0 < fields.length then 8 else 0) = Z) := hid (by
        have h1 := HP2.out.trans (fb_end hlt)
        have := HZ3.out; rw [if_neg (by rw [h1]; decide)] at this; exact this)
       have hge2 : ¬ (k2 : Int) < (fields.length : Int) := by omega
       clear hlt HP2 HZ3 HDB HSM2
       go_wp2_with fail
       clear hk4 hge2 hk2
       obtain ⟨W4, hW4⟩ : ∃ W4, W4 = wr := ⟨_, rfl⟩
       subst hW4
       go_loopw [6] (fun i wr => ∃ k : Nat, k ≤ mets.length ∧ i = .int .i64 k ∧ Hid (Below W4.heap.size W4 wr) ∧ Hid (MB = firstBad metFault (mets.take k) (mets.drop k))) (fun i _ => mets.length - (intOf i).toNat)
       case atStart => exact ⟨0, Nat.zero_le _, rfl, hid (Below.refl _ _), hid HMB.out.symm⟩
       case round =>
        obtain ⟨k3, hk3, rfl, HR3, HP3⟩ := hrel
        have HBR3 := hid (HBR2.out.trans (HR3.out.mono HBR2.out.size))
        have HXR3 := hid ((HR3.out.block _ HLR2.out).trans HXR2.out)
        have HLR3 := hid (Nat.lt_of_lt_of_le HLR2.out HR3.out.size)
        have hk5 : wr.cell? ⟨w.heap.size, 5, none⟩ = some (.slice am mets.length cm) := by rw [cell_of_row _ _ _ _ _ _ HXR3.out]; rfl
        by_cases hlt : k3 < mets.length
        ·have HSL := hid (H3.out.below HBR3.out)
         obtain ⟨b, off, hab, hfl⟩ := row_at (cells := MV.cells) (sz := 8) (fun _ => rfl) HSL.out.sl hlt (by decide)
         subst hab
         have HFL := hid hfl
         clear hfl
         have hi : (0 : Int) ≤ (k3 : Int) := by omega
         have hkl : (k3 : Int) < (mets.length : Int) := by omega
         have hkc : (k3 : Int) ≤ (cm : Int) := by omega
         have HMS := hid (HSM3.out _ (List.getElem_mem hlt))
         have HAT := hid (HSL.out.at_ _ (List.getElem_mem hlt))
         have HT := hid (Mets.part HSL.out (k := k3) (by omega))
         have HOK := hid (fun h => HP3.out.trans (fb_ok (f := metFault) hlt h))
         have HNO := hid (fun h => HP3.out.trans (fb_no (f := metFault) hlt h))
         have HTL : Hid ((mets.take k3).length = k3) := hid (by rw [List.length_take]; omega)
         generalize mets[k3] = x at HFL HMS HAT HOK HNO
         have HCM := hid (fun (u : World) (h : Below wr.heap.size wr u) => rmethod_any x (.slice (some ⟨b, off, none⟩) k3 cm) (mets.take k3) u (HAT.out.below h) (HT.out.below h) HMS.out (by have := HTL.out; omega))
         obtain ⟨F, hF⟩ : ∃ F, metFault x (mets.take k3) = F := ⟨_, rfl⟩
         have HFF := hid hF
         rw [hF] at HCM
         clear hF
         go_wp2_with fail
         refine wp_region_ext [(9, is (.int .i64 F))] ⟨is_stays _, trivial⟩ (by kernel_rfl) (by kernel_rfl) ?_
         refine wpG_calc 1 rfl rfl rfl (fun u => by go_simp; rfl) ?_
         go_frame
         refine wpG_read 2 rfl rfl (.slice (some ⟨b, off, none⟩) mets.length cm) rfl ?_ ?_
         ·intro u hu hh
          have hk5 : u.cell? ⟨w.heap.size, 5, none⟩ = some (.slice (some ⟨b, off, none⟩) mets.length cm) := by rw [cell_of_row _ _ _ _ _ _ ((hu.block _ HLR3.out).trans HXR3.out)]; rfl
          go_simp
         go_frame
         refine wpG_calc 3 rfl rfl rfl (fun u => by go_simp; rfl) ?_
         go_frame
         refine wpG_calc 4 rfl rfl rfl (fun u => by go_simp; rfl) ?_
         go_frame
         refine wpG_flat 5 rfl rfl rfl 92 _ rfl b (off + k3 * 8) rfl x.cells.toArray _ Tryz.underlying92 rfl (by kernel_rfl) (fun u hu j hj => by
          have h8 : j < 8 := hj
          have h9 := HFL.out j h8
          rw [Nat.add_assoc, hu.cell (p := ⟨b, off + (k3 * 8 + j), none⟩) (World.block_lt_of_cell? wr ⟨b, off + (k3 * 8 + j), none⟩ (h9.trans (List.getElem?_eq_getElem (show j < x.cells.length from h8)))), h9]
          simp) ?_
         go_frame
         refine wpG_calc 6 rfl rfl rfl (fun u => by go_simp; rfl) ?_
         go_frame
         refine wpG_read 7 rfl rfl (.slice (some ⟨b, off, none⟩) mets.length cm) rfl ?_ ?_
         ·intro u hu hh
          have hk5 : u.cell? ⟨w.heap.size, 5, none⟩ = some (.slice (some ⟨b, off, none⟩) mets.length cm) := by rw [cell_of_row _ _ _ _ _ _ ((hu.block _ HLR3.out).trans HXR3.out)]; rfl
          go_simp
         go_frame
         refine wpG_calc 8 rfl rfl rfl (fun u => by go_simp; rfl) ?_
         go_frame
         refine wpG_calc 9 rfl rfl rfl (fun u => by go_simp; rfl) ?_
         go_frame
         refine wpG_rel 10 rfl rfl rfl ?_ ?_
         ·intro u hu hh
          go_simp
          refine (HCM.out u hu).mono ?_
          rintro e w6 ⟨rfl, hb6⟩
          exact ⟨_, rfl, rfl, hb6⟩
         intro v6 ⟨u6, _, hr6⟩
         obtain rfl : v6 = .int .i64 F := hr6
         go_frame
         refine wpG_calc 11 rfl rfl rfl (fun u => by go_simp; rfl) ?_
         go_frame
         refine wpG_nil fun w6 hb6 hF => ?_
         clear hF
         have HB6 := hid (HBR3.out.trans (hb6.mono HBR3.out.size))
         have HR6 := hid (HR3.out.trans (hb6.mono HR3.out.size))
         clear hb6 hk5
         by_cases h0 : F = 0
         ·have HP4 := hid (HOK.out (HFF.out.trans h0))
          subst h0
          go_wp2_with fail
          go_roundw
          case rel => exact ⟨k3 + 1, by omega, by go_num, HR6, HP4⟩
          case measure => simp [intOf]; omega
         ·have HZ5 : Hid (Z = F) := hid (by
           have h1 := HNO.out (by rw [HFF.out]; exact h0)
           rw [HFF.out] at h1
           have := HZ4.out; rw [h1, if_pos h0] at this; exact this.symm)
          have hcb : (F == 0) = false := by simpa using h0
          have hcb2 : (F != 0) = true := by simpa using h0
          go_wp2_with fail
          go_ret
          rw [HZ5.out]
          exact ⟨rfl, HB6.out⟩
        ·have HZ5 : Hid ((if face = true ∧ 0 < fields.length then 8 else 0) = Z) := hid (by
          have h1 := HP3.out.trans (fb_end hlt)
          have := HZ4.out; rw [if_neg (by rw [h1]; decide)] at this; exact this)
         have hge3 : ¬ (k3 : Int) < (mets.length : Int) := by omega
         have hk3' : wr.cell? ⟨w.heap.size, 3, none⟩ = some (.bool face) := by rw [cell_of_row _ _ _ _ _ _ HXR3.out]; rfl
         have hk4 : wr.cell? ⟨w.heap.size, 4, none⟩ = some (.slice ad fields.length cd) := by rw [cell_of_row _ _ _ _ _ _ HXR3.out]; rfl
         clear hlt HP3 HZ4 HSM3
         cases face with
         | false =>
          have HZ6 : Hid (Z = 0) := hid (by rw [← HZ5.out]; simp)
          go_wp2_with fail
          go_ret
          rw [HZ6.out]
          exact ⟨rfl, HBR3.out⟩
         | true =>
          obtain ⟨n, hn⟩ : ∃ n, fields.length = n := ⟨_, rfl⟩
          rw [hn] at hk4
          by_cases h0 : 0 < n
          ·have HZ6 : Hid (Z = 8) := hid (by rw [← HZ5.out, if_pos ⟨rfl, by omega⟩])
           have h0i : (0 : Int) < (n : Int) := by omega
           have hn8 : n ≤ 1048576 := by omega
           clear hn
           go_wp2_with fail
           go_ret
           rw [HZ6.out]
           exact ⟨rfl, HBR3.out⟩
          ·have HZ6 : Hid (Z = 0) := hid (by rw [← HZ5.out, if_neg (by omega)])
           obtain rfl : n = 0 := by omega
           clear h0 hn
           go_wp2_with fail
           go_ret
           rw [HZ6.out]
           exact ⟨rfl, HBR3.out⟩
end Go.Proofs.YtlhobhnbgdicjaaGreatDoor.classes
