/- Classes: the reference's In and methodFault. Conditions: the method is not long. -/
import Derived.Test.YtklebfkbildifaaDoorCls3
import Derived.Test.YtklebfkbildifaaDoorHdl4
import Derived.Test.YtklebfkbildifaaDoorFlow2
import Derived.Test.YtklebfkbildifaaDoorGrow
import Derived.Deep.QuietTactic
import Derived.BigQuiet
import Derived.Deep.DeepCutAuto
namespace Go.Proofs.YtklebfkbildifaaDoor.classes
open Go.RowKit Go.Proofs.YtklebfkbildifaaDoor.lib Go.Proofs.YtklebfkbildifaaDoor.errs Go.Proofs.YtklebfkbildifaaDoor.names Go.Proofs.YtklebfkbildifaaDoor.descs Go.Proofs.YtklebfkbildifaaDoor.ins Go.Proofs.YtklebfkbildifaaDoor.flows Go.Proofs.YtklebfkbildifaaDoor.hdls Go.Proofs.YtklebfkbildifaaDoor.grow

theorem methodSaid_n {w w' : World} {S : List UInt8} {e : Ending} (hm : methodOf S = none) (h : MethodSaid w S e w') : e = .returned (.tuple #[.slice none 0 0, .string { data := #[] }, .bool false]) ∧ Below w.heap.size w w' := by
  unfold MethodSaid at h; rw [hm] at h; exact h
theorem methodSaid_s {w w' : World} {S g : List UInt8} {ts : List (List UInt8)} {e : Ending} (hm : methodOf S = some (ts, g)) (h : MethodSaid w S e w') : ∃ v, e = .returned (.tuple #[v, .string (bs g), .bool true]) ∧ Out w w' 9 1 v ts.length (ts.map sv) := by
  unfold MethodSaid at h; rw [hm] at h; exact h

theorem locOp_true {op : Int} (h : op = 4 ∨ op = 5) : locOp op = true := decide_eq_true h
theorem locOp_false {op : Int} (h1 : ¬ op = 4) (h2 : ¬ op = 5) : ¬ locOp op = true := by unfold locOp; simp [h1, h2]

set_option maxRecDepth 100000 in
set_option maxHeartbeats 8000000 in
theorem rmethod_any (m : MV) (va : Value) (ahead : List MV) (w : World) (hm : m.At w) (ha : Mets w va ahead) (hsm : SmallM m) (hn : ahead.length ≤ 1000000000000) :
    Calls Tryd.prog 61 #[.agg m.cells.toArray, va] w fun e w' => e = .returned (.int .i64 (metFault m ahead)) ∧ Below w.heap.size w w' := by
  obtain ⟨nm, ty, st, ab, pr, lo, vc, vh, l, hs⟩ := m
  obtain ⟨Z, hZ⟩ : ∃ Z, metFault ⟨nm, ty, st, ab, pr, lo, vc, vh, l, hs⟩ ahead = Z := ⟨_, rfl⟩
  obtain ⟨B, hB⟩ : ∃ B, bodyFault ⟨nm, ty, st, ab, pr, lo, vc, vh, l, hs⟩ = B := ⟨_, rfl⟩
  obtain ⟨A, hA⟩ : ∃ A, argsOf st ty.data.toList = A := ⟨_, rfl⟩
  have HZ : Hid ((if nameOk nm.data.toList = false then 1 else if methodOf ty.data.toList = none then 1 else if twin nm ty ahead = true then 5 else if lo < 0 ∨ 8 < lo then 2 else B) = Z) := hid (by rw [← hB]; exact hZ)
  have HB : Hid ((if ab = true then absFault st pr l.length hs.length else if codeFault l ≠ 0 then codeFault l else if lo < A then 2 else if farLoc lo l = true then 2 else hdFault l.length hs) = B) := hid (by rw [← hA]; exact hB)
  rw [hZ]
  have HA := hid hA
  have hnm : nm.size ≤ 1048576 := hsm.nm
  have hty : ty.size ≤ 1048576 := hsm.ty
  have hll : l.length ≤ 1048576 := hsm.len
  have hhl : hs.length ≤ 1048576 := hsm.hlen
  have HSC := hid hsm.code
  have HSH := hid hsm.hs
  obtain ⟨hc, hv⟩ := hm
  simp only [MV.cells] at hc hv HSC HSH ⊢
  obtain ⟨ac, cc, rfl⟩ := hc.val
  obtain ⟨ah, ch, rfl⟩ := hv.val
  obtain ⟨aa, ca, rfl⟩ := ha.sl.val
  obtain ⟨W0, hW0⟩ : ∃ W0, w.alloc (.cells #[.string nm, .string ty, .bool st, .bool ab, .bool pr, .int .i64 lo, .slice ac l.length cc, .slice ah hs.length ch] 25) = W0 := ⟨_, rfl⟩
  have HBX : Hid (W0.heap[w.heap.size]? = some (.cells #[.string nm, .string ty, .bool st, .bool ab, .bool pr, .int .i64 lo, .slice ac l.length cc, .slice ah hs.length ch] 25)) := hid (by subst hW0; exact heap_alloc_new _ _)
  have HB0 : Hid (Below w.heap.size w W0 ∧ w.heap.size < W0.heap.size) := hid (by subst hW0; exact ⟨ext_alloc _ _, by rw [World.size_alloc]; exact Nat.lt_succ_self _⟩)
  have HMA := hid ha
  have HC := hid hc
  have HV := hid hv
  have hk1 : W0.cell? ⟨w.heap.size, 1, none⟩ = some (.string ty) := by rw [cell_of_row _ _ _ _ _ _ HBX.out]; rfl
  clear hc hv hsm hZ hB hA ha
  go_enter Tryd.func61, Tryd.ntmps61
  go_wp2_with fail
  refine (methodOf_any ty _ (by omega)).mono ?_
  intro e w1 h1
  clear hk1
  cases hT : methodOf ty.data.toList with
  | none =>
    obtain ⟨rfl, hb1⟩ := methodSaid_n hT h1
    have HX1 := hid ((hb1.block _ HB0.out.2).trans HBX.out)
    have HB1 := hid (HB0.out.1.trans (hb1.mono HB0.out.1.size))
    have HZ1 : Hid (Z = 1) := hid (by have := HZ.out; rw [if_pos hT] at this; rw [← this]; split <;> rfl)
    have hk0 : w1.cell? ⟨w.heap.size, 0, none⟩ = some (.string nm) := by rw [cell_of_row _ _ _ _ _ _ HX1.out]; rfl
    clear h1 hT hW0 hb1
    go_wp2_with fail
    refine (isName_any nm _ (by omega)).mono ?_
    rintro e w2 ⟨rfl, rfl⟩
    cases hN : nameOk nm.data.toList with
    | false =>
      go_wp2_with fail
      go_ret
      rw [HZ1.out]
      exact ⟨rfl, HB1.out⟩
    | true =>
      go_wp2_with fail
      go_ret
      rw [HZ1.out]
      exact ⟨rfl, HB1.out⟩
  | some r =>
    obtain ⟨ts, g⟩ := r
    obtain ⟨v, rfl, ho⟩ := methodSaid_s hT h1
    have hts := few_args hT
    have HAT : Hid ((if st = true then (ts.length : Int) else (ts.length : Int) + 1) = A) := hid (by rw [← argsOf_some hT]; exact HA.out)
    have HZ1 : Hid ((if nameOk nm.data.toList = false then 1 else if twin nm ty ahead = true then 5 else if lo < 0 ∨ 8 < lo then 2 else B) = Z) := hid (by have := HZ.out; rw [hT, if_neg (fun h : (some (ts, g) = none) => by cases h)] at this; exact this)
    have HX1 := hid ((ho.below.block _ HB0.out.2).trans HBX.out)
    have HB1 := hid (HB0.out.1.trans (ho.below.mono HB0.out.1.size))
    have HL1 := hid (Nat.lt_of_lt_of_le HB0.out.2 ho.below.size)
    obtain ⟨av, cv, rfl⟩ := ho.sl.val
    have hk0 : w1.cell? ⟨w.heap.size, 0, none⟩ = some (.string nm) := by rw [cell_of_row _ _ _ _ _ _ HX1.out]; rfl
    clear h1 hT hW0 ho HZ HBX
    go_wp2_with fail
    refine (isName_any nm _ (by omega)).mono ?_
    rintro e w2 ⟨rfl, rfl⟩
    cases hN : nameOk nm.data.toList with
    | false =>
      have HZ2 : Hid (Z = 1) := hid (by have := HZ1.out; rw [if_pos hN] at this; exact this.symm)
      go_wp2_with fail
      go_ret
      rw [HZ2.out]
      exact ⟨rfl, HB1.out⟩
    | true =>
      have HZ2 : Hid ((if twin nm ty ahead = true then 5 else if lo < 0 ∨ 8 < lo then 2 else B) = Z) := hid (by have := HZ1.out; rw [if_neg (by rw [hN]; decide)] at this; exact this)
      clear hN hk0
      go_wp2_with fail
      go_loopw [8] (fun i wr => ∃ k : Nat, k ≤ ahead.length ∧ i = .int .i64 k ∧ Hid (Below w1.heap.size w1 wr) ∧ Hid (twin nm ty ahead = twin nm ty (ahead.drop k))) (fun i _ => ahead.length - (intOf i).toNat)
      case atStart => exact ⟨0, Nat.zero_le _, rfl, hid (Below.refl _ _), hid rfl⟩
      case round =>
        obtain ⟨k, hk, rfl, HR, HP⟩ := hrel
        have HBR := hid (HB1.out.trans (HR.out.mono HB1.out.size))
        have HXR := hid ((HR.out.block _ HL1.out).trans HX1.out)
        have HLR := hid (Nat.lt_of_lt_of_le HL1.out HR.out.size)
        by_cases hlt : k < ahead.length
        · obtain ⟨bb, off, hab, hd0, hd1, _⟩ := met_at (HMA.out.below HBR.out) hlt
          subst hab
          have hi : (0 : Int) ≤ (k : Int) := by omega
          have hkl : (k : Int) < (ahead.length : Int) := by omega
          have HY := hid (fun h => HP.out.trans (twin_yes (nm := nm) (ty := ty) hlt h))
          have HN := hid (fun h => HP.out.trans (twin_no (nm := nm) (ty := ty) hlt h))
          generalize ahead[k] = x at hd0 hd1 HY HN
          obtain ⟨n2, t2, st2, ab2, pr2, lo2, vc2, vh2, code2, hs2⟩ := x
          simp only at hd0 hd1 HY HN
          have hk0 : wr.cell? ⟨w.heap.size, 0, none⟩ = some (.string nm) := by rw [cell_of_row _ _ _ _ _ _ HXR.out]; rfl
          have hk1 : wr.cell? ⟨w.heap.size, 1, none⟩ = some (.string ty) := by rw [cell_of_row _ _ _ _ _ _ HXR.out]; rfl
          by_cases h1 : n2 = nm
          · have s1 := str_eqb h1
            by_cases h2 : t2 = ty
            · have s2 := str_eqb h2
              have HZ3 : Hid (Z = 5) := hid (by have := HZ2.out; rw [if_pos (HY.out ⟨h1, h2⟩)] at this; exact this.symm)
              subst h1 h2
              clear s1 s2
              go_wp2_with fail
              go_quiet (fail)
              go_wp2_with fail
              go_ret
              rw [HZ3.out]
              exact ⟨rfl, below_drewN HBR.out _⟩
            · have s2 := str_neb h2
              have s3 : ¬ t2.toList = ty.toList := by rw [beq_eq_false_iff_ne] at s2; exact s2
              have HP2 := hid (HN.out (fun h => h2 h.2))
              subst h1
              clear s1 h2
              go_wp2_with fail
              go_quiet (fail)
              go_wp2_with fail
              go_roundw
              case rel => exact ⟨k + 1, by omega, by go_num, hid (below_drewN HR.out _), HP2⟩
              case measure => simp [intOf]; omega
          · have s1 := str_neb h1
            have s3 : ¬ n2.toList = nm.toList := by rw [beq_eq_false_iff_ne] at s1; exact s1
            have HP2 := hid (HN.out (fun h => h1 h.1))
            clear h1
            go_wp2_with fail
            go_quiet (fail)
            go_wp2_with fail
            go_roundw
            case rel => exact ⟨k + 1, by omega, by go_num, hid (below_drewN HR.out _), HP2⟩
            case measure => simp [intOf]; omega
        · have HZ3 : Hid ((if lo < 0 ∨ 8 < lo then 2 else B) = Z) := hid (by have := HZ2.out; rw [if_neg (by rw [HP.out, twin_end hlt]; decide)] at this; exact this)
          have hge : ¬ (k : Int) < (ahead.length : Int) := by omega
          have hk5 : wr.cell? ⟨w.heap.size, 5, none⟩ = some (.int .i64 lo) := by rw [cell_of_row _ _ _ _ _ _ HXR.out]; rfl
          have hk3 : wr.cell? ⟨w.heap.size, 3, none⟩ = some (.bool ab) := by rw [cell_of_row _ _ _ _ _ _ HXR.out]; rfl
          clear HP hlt HZ1 HZ2 HMA
          by_cases h0 : lo < 0
          · have HZ5 : Hid (Z = 2) := hid (by have := HZ3.out; rw [if_pos (.inl h0)] at this; exact this.symm)
            go_wp2_with fail
            go_ret
            rw [HZ5.out]
            exact ⟨rfl, HBR.out⟩
          by_cases h8 : 8 < lo
          · have HZ5 : Hid (Z = 2) := hid (by have := HZ3.out; rw [if_pos (.inr h8)] at this; exact this.symm)
            go_wp2_with fail
            go_ret
            rw [HZ5.out]
            exact ⟨rfl, HBR.out⟩
          have HZ5 : Hid (B = Z) := hid (by have := HZ3.out; rw [if_neg (by omega)] at this; exact this)
          cases ab with
          | true =>
            have HBA : Hid (absFault st pr l.length hs.length = Z) := hid (by rw [← HZ5.out, ← HB.out, if_pos rfl])
            have hk2 : wr.cell? ⟨w.heap.size, 2, none⟩ = some (.bool st) := by rw [cell_of_row _ _ _ _ _ _ HXR.out]; rfl
            have hk4 : wr.cell? ⟨w.heap.size, 4, none⟩ = some (.bool pr) := by rw [cell_of_row _ _ _ _ _ _ HXR.out]; rfl
            have hk6 : wr.cell? ⟨w.heap.size, 6, none⟩ = some (.slice ac l.length cc) := by rw [cell_of_row _ _ _ _ _ _ HXR.out]; rfl
            have hk7 : wr.cell? ⟨w.heap.size, 7, none⟩ = some (.slice ah hs.length ch) := by rw [cell_of_row _ _ _ _ _ _ HXR.out]; rfl
            obtain ⟨n, hnl⟩ : ∃ n, l.length = n := ⟨_, rfl⟩
            obtain ⟨m, hml⟩ : ∃ m, hs.length = m := ⟨_, rfl⟩
            rw [hnl] at hk6 HBA hll
            rw [hml] at hk7 HBA hhl
            clear hnl hml
            cases st with
            | true =>
              have HZ6 : Hid (Z = 8) := hid (by rw [← HBA.out, (abs_bad (.inl rfl)).2])
              go_wp2_with fail
              go_ret
              rw [HZ6.out]
              exact ⟨rfl, HBR.out⟩
            | false =>
              cases pr with
              | true =>
                have HZ6 : Hid (Z = 8) := hid (by rw [← HBA.out, (abs_bad (.inr (.inl rfl))).2])
                go_wp2_with fail
                go_ret
                rw [HZ6.out]
                exact ⟨rfl, HBR.out⟩
              | false =>
                by_cases h1 : 0 < n
                · have HZ6 : Hid (Z = 8) := hid (by rw [← HBA.out, (abs_bad (.inr (.inr (.inl h1)))).2])
                  have k1 : (0 : Int) < (n : Int) := by omega
                  go_wp2_with fail
                  go_ret
                  rw [HZ6.out]
                  exact ⟨rfl, HBR.out⟩
                obtain rfl : n = 0 := by omega
                by_cases h2 : 0 < m
                · have HZ6 : Hid (Z = 8) := hid (by rw [← HBA.out, (abs_bad (.inr (.inr (.inr h2)))).2])
                  have k2 : (0 : Int) < (m : Int) := by omega
                  clear h1
                  go_wp2_with fail
                  go_ret
                  rw [HZ6.out]
                  exact ⟨rfl, HBR.out⟩
                · obtain rfl : m = 0 := by omega
                  have HZ6 : Hid (Z = 0) := hid (by rw [← HBA.out]; rfl)
                  clear h1 h2
                  go_wp2_with fail
                  go_ret
                  rw [HZ6.out]
                  exact ⟨rfl, HBR.out⟩
          | false =>
            have HZ6 : Hid ((if codeFault l ≠ 0 then codeFault l else if lo < A then 2 else if farLoc lo l = true then 2 else hdFault l.length hs) = Z) := hid (by rw [← HZ5.out, ← HB.out, if_neg (show ¬ (false = true) from by decide)])
            have hk6 : wr.cell? ⟨w.heap.size, 6, none⟩ = some (.slice ac l.length cc) := by rw [cell_of_row _ _ _ _ _ _ HXR.out]; rfl
            have HFC := hid (codeFault_any (.slice ac l.length cc) l wr (HC.out.below HBR.out) HSC.out (by omega))
            clear HZ5 HZ3 HB
            go_wp2_with fail
            refine HFC.out.mono ?_
            rintro e w3 ⟨rfl, hb3⟩
            have HX3 := hid ((hb3.block _ HLR.out).trans HXR.out)
            have HB3 := hid (HBR.out.trans (hb3.mono HBR.out.size))
            have HL3 := hid (Nat.lt_of_lt_of_le HLR.out hb3.size)
            clear hb3 hk3 hk5 hk6
            by_cases hcf : ¬ codeFault l = 0
            · have HZ7 : Hid (Z = codeFault l) := hid (by have := HZ6.out; rw [if_pos hcf] at this; exact this.symm)
              generalize codeFault l = F at hcf HZ7
              have hcb : (F == 0) = false := by simpa using hcf
              have hcb2 : (F != 0) = true := by simpa using hcf
              go_wp2_with fail
              go_ret
              rw [HZ7.out]
              exact ⟨rfl, HB3.out⟩
            have hcf := Classical.not_not.1 hcf
            have HZ7 : Hid ((if lo < A then 2 else if farLoc lo l = true then 2 else hdFault l.length hs) = Z) := hid (by have := HZ6.out; rw [if_neg (by omega)] at this; exact this)
            rw [hcf]
            clear hcf HZ6 HFC
            have hk2 : w3.cell? ⟨w.heap.size, 2, none⟩ = some (.bool st) := by rw [cell_of_row _ _ _ _ _ _ HX3.out]; rfl
            go_upto_if 89 with (fail)
            go_cut [10] (fun s wx => s = .int .i64 A ∧ wx = w3)
            case first =>
              cases st with
              | true =>
                have HAA : Hid ((ts.length : Int) = A) := hid (by have := HAT.out; rwa [if_pos rfl] at this)
                go_wp2_with fail
                go_meet
                exact ⟨by rw [← HAA.out], rfl⟩
              | false =>
                have HAA : Hid ((ts.length : Int) + 1 = A) := hid (by have := HAT.out; rwa [if_neg (by decide)] at this)
                go_wp2_with fail
                go_meet
                exact ⟨by rw [← HAA.out], rfl⟩
            case rest =>
              obtain ⟨rfl, rfl⟩ := hcut
              have hk5 : wc.cell? ⟨w.heap.size, 5, none⟩ = some (.int .i64 lo) := by rw [cell_of_row _ _ _ _ _ _ HX3.out]; rfl
              clear hk2
              by_cases h1 : lo < A
              · have HZ8 : Hid (Z = 2) := hid (by have := HZ7.out; rw [if_pos h1] at this; exact this.symm)
                go_wp2_with fail
                go_ret
                rw [HZ8.out]
                exact ⟨rfl, HB3.out⟩
              have HZ8 : Hid ((if farLoc lo l = true then 2 else hdFault l.length hs) = Z) := hid (by have := HZ7.out; rw [if_neg h1] at this; exact this)
              go_wp2_with fail
              clear h1 hk5 hk hge h0 h8
              go_loopw [11] (fun i wr => ∃ k : Nat, k ≤ l.length ∧ i = .int .i64 k ∧ Hid (Below wc.heap.size wc wr) ∧ Hid (farLoc lo l = farLoc lo (l.drop k))) (fun i _ => l.length - (intOf i).toNat)
              case atStart => exact ⟨0, Nat.zero_le _, rfl, hid (Below.refl _ _), hid rfl⟩
              case round =>
                obtain ⟨k2, hk2, rfl, HR4, HP4⟩ := hrel
                have HB4 := hid (HB3.out.trans (HR4.out.mono HB3.out.size))
                have HX4 := hid ((HR4.out.block _ HL3.out).trans HX3.out)
                have hk6 : wr.cell? ⟨w.heap.size, 6, none⟩ = some (.slice ac l.length cc) := by rw [cell_of_row _ _ _ _ _ _ HX4.out]; rfl
                by_cases hlt : k2 < l.length
                · obtain ⟨b, off, hab, hc0, hc1, _⟩ := code_at (HC.out.below HB4.out) hlt
                  subst hab
                  have hi : (0 : Int) ≤ (k2 : Int) := by omega
                  have hkl : (k2 : Int) < (l.length : Int) := by omega
                  have HOK := hid (fun h => HP4.out.trans (far_ok (lo := lo) hlt h))
                  have HNO := hid (fun h => HP4.out.trans (far_no (lo := lo) hlt h))
                  generalize l[k2] = x at hc0 hc1 HOK HNO
                  obtain ⟨op, xa, xb, t, xc, xn⟩ := x
                  simp only at HOK HNO hc0 hc1
                  have hk5 : wr.cell? ⟨w.heap.size, 5, none⟩ = some (.int .i64 lo) := by rw [cell_of_row _ _ _ _ _ _ HX4.out]; rfl
                  have HNQ := hid (fun n => hid (below_drewN HR4.out n))
                  by_cases h4 : op = 4
                  · subst h4
                    by_cases hlo : lo ≤ xa
                    · have HZ9 : Hid (Z = 2) := hid (by have := HZ8.out; rw [if_pos (HNO.out ⟨locOp_true (.inl rfl), hlo⟩)] at this; exact this.symm)
                      go_wp2_with fail
                      go_quiet (fail)
                      go_wp2_with fail
                      go_ret
                      rw [HZ9.out]
                      exact ⟨rfl, below_drewN HB4.out _⟩
                    · have HN := hid (HOK.out (fun h => hlo h.2))
                      go_wp2_with fail
                      go_quiet (fail)
                      go_wp2_with fail
                      go_roundw
                      case rel => exact ⟨k2 + 1, by omega, by go_num, HNQ.out _, HN⟩
                      case measure => simp [intOf]; omega
                  · have n4 : (op == 4) = false := by simpa using h4
                    by_cases h5 : op = 5
                    · subst h5
                      clear h4 n4
                      by_cases hlo : lo ≤ xa
                      · have HZ9 : Hid (Z = 2) := hid (by have := HZ8.out; rw [if_pos (HNO.out ⟨locOp_true (.inr rfl), hlo⟩)] at this; exact this.symm)
                        go_wp2_with fail
                        go_quiet (fail)
                        go_wp2_with fail
                        go_ret
                        rw [HZ9.out]
                        exact ⟨rfl, below_drewN HB4.out _⟩
                      · have HN := hid (HOK.out (fun h => hlo h.2))
                        go_wp2_with fail
                        go_quiet (fail)
                        go_wp2_with fail
                        go_roundw
                        case rel => exact ⟨k2 + 1, by omega, by go_num, HNQ.out _, HN⟩
                        case measure => simp [intOf]; omega
                    · have n5 : (op == 5) = false := by simpa using h5
                      have HN := hid (HOK.out (fun h => locOp_false h4 h5 h.1))
                      go_wp2_with fail
                      go_quiet (fail)
                      go_wp2_with fail
                      go_roundw
                      case rel => exact ⟨k2 + 1, by omega, by go_num, HNQ.out _, HN⟩
                      case measure => simp [intOf]; omega
                · have HZ9 : Hid (hdFault l.length hs = Z) := hid (by
                    have h9 := HZ8.out
                    rw [if_neg (by rw [HP4.out, far_end hlt]; decide)] at h9
                    exact h9)
                  have hge : ¬ (k2 : Int) < (l.length : Int) := by omega
                  have hk7 : wr.cell? ⟨w.heap.size, 7, none⟩ = some (.slice ah hs.length ch) := by rw [cell_of_row _ _ _ _ _ _ HX4.out]; rfl
                  have HHD := hid (rhandlers_any l.length (.slice ah hs.length ch) hs wr (HV.out.below HB4.out) (fun h hh => by have := HSH.out h hh; omega) (by omega))
                  clear hlt
                  go_wp2_with fail
                  refine HHD.out.mono ?_
                  rintro e w5 ⟨rfl, hb5⟩
                  go_wp2_with fail
                  go_ret
                  rw [HZ9.out]
                  exact ⟨rfl, HB4.out.trans (hb5.mono HB4.out.size)⟩
end Go.Proofs.YtklebfkbildifaaDoor.classes
