/- What comes next: lists of instructions in memory, what is wrong with code; flow.Check. Conditions: the table lies in its variable; the texts are shorter than ten million bytes. -/
import Derived.Test.YtloeaihbnnnncaaGreatDoorIns6
import Derived.Test.YtloeaihbnnnncaaGreatDoorFlowP
namespace Go.Proofs.YtloeaihbnnnncaaGreatDoor.ins
open Go.RowKit Go.Proofs.YtloeaihbnnnncaaGreatDoor.lib Go.Proofs.YtloeaihbnnnncaaGreatDoor.errs Go.Proofs.YtloeaihbnnnncaaGreatDoor.names Go.Proofs.YtloeaihbnnnncaaGreatDoor.descs
set_option maxHeartbeats 400000 in
theorem ends_any (op : Int) (w : World) : Calls Tryz.prog 66 #[.int .i64 op] w fun e w' => e = .returned (.bool (endsOp op)) ∧ w = w' := by
  go_enter Tryz.func66, Tryz.ntmps66
  go_wp2
  all_goals go_ret
  all_goals exact ⟨by first | rfl | simp_all [endsOp], rfl⟩

end Go.Proofs.YtloeaihbnnnncaaGreatDoor.ins
namespace Go.Proofs.YtloeaihbnnnncaaGreatDoor.flows
open Go.RowKit Go.Proofs.YtloeaihbnnnncaaGreatDoor.lib Go.Proofs.YtloeaihbnnnncaaGreatDoor.errs Go.Proofs.YtloeaihbnnnncaaGreatDoor.names Go.Proofs.YtloeaihbnnnncaaGreatDoor.descs Go.Proofs.YtloeaihbnnnncaaGreatDoor.ins

set_option maxRecDepth 100000 in
set_option maxHeartbeats 4000000 in
theorem fcheck_any (va : Value) (l : List I) (w : World) (ha : Code w va l) (hf : FormsAt w) (hs : ∀ x ∈ l, Small x) (hn : l.length ≤ 1000000000000) :
    Calls Tryz.prog 33 #[va] w fun e w' => e = .returned (errVal (codeFault l)) ∧ Below w.heap.size w w' := by
  obtain ⟨a, c, rfl⟩ := ha.val
  have HA := hid ha; have HF := hid hf; have HS := hid hs
  clear ha hf hs
  by_cases h40 : 40 < l.length
  · have HZ : Hid (codeFault l = 4) := hid (by unfold codeFault; rw [if_pos h40])
    have k40 : (40 : Int) < (l.length : Int) := by omega
    go_enter Tryz.func33, Tryz.ntmps33
    go_wp2
    go_ret
    rw [HZ.out, errVal_ne (by decide)]
    exact ⟨rfl, Below.refl _ _⟩
  · have k40 : ¬ (40 : Int) < (l.length : Int) := by omega
    have HZ : Hid (codeFault l = if badIns l ≠ 0 then badIns l else if jumpsOut l.length l = true then 2 else if lastEnds l = true then 0 else 8) := hid (by unfold codeFault; rw [if_neg h40])
    go_enter Tryz.func33, Tryz.ntmps33
    go_wp2_with fail
    go_loopw [14] (fun i wr => ∃ k : Nat, k ≤ l.length ∧ i = .int .i64 k ∧ Hid (Below w.heap.size w wr) ∧ Hid (badIns l = badIns (l.drop k))) (fun i _ => l.length - (intOf i).toNat)
    case atStart => exact ⟨0, Nat.zero_le _, rfl, hid (Below.refl _ _), hid rfl⟩
    case round =>
      obtain ⟨k, hk, rfl, HR, HP⟩ := hrel
      by_cases hlt : k < l.length
      · have hi : (0 : Int) ≤ (k : Int) := by omega
        have hkl : (k : Int) < (l.length : Int) := by omega
        obtain ⟨b, off, hab, hc0, hc1, hc2, hc3, hc4, hc5⟩ := code_at (HA.out.below HR.out) hlt
        subst hab
        obtain ⟨hs1, hs2, hs3⟩ := HS.out _ (List.getElem_mem hlt)
        have HOK := hid (fun h => HP.out.trans (bad_ok hlt h))
        have HNO := hid (fun h => HP.out.trans (bad_no hlt h))
        generalize l[k] = x at hc0 hc1 hc2 hc3 hc4 hc5 hs1 hs2 hs3 HOK HNO
        obtain ⟨op, xa, xb, t, xc, xn⟩ := x
        have HB := hid (HR.out.alloc HR.out.size (.cells #[.int .i64 op, .int .i64 xa, .int .i64 xb, .string t, .string xc, .string xn] 61))
        go_wp2_with fail
        refine (icheck_any op xa xb t xc xn _ (HF.out.below HB.out) hs1 hs2 hs3).mono ?_
        rintro e w1 ⟨rfl, hb1⟩
        have HB1 := hid (HB.out.trans (hb1.mono HB.out.size))
        clear hb1
        by_cases he : insFault ⟨op, xa, xb, t, xc, xn⟩ = 0
        · have HN := hid (HOK.out he)
          rw [errVal_zero he]
          clear he
          go_wp2
          go_roundw
          case rel => exact ⟨k + 1, by omega, by go_num, HB1, HN⟩
          case measure => simp [intOf]; omega
        · have HY : Hid (codeFault l = insFault ⟨op, xa, xb, t, xc, xn⟩) := hid (by rw [HZ.out, HNO.out he, if_pos he])
          rw [errVal_ne he]
          have HE := hid (errVal_ne he)
          clear he
          go_wp2
          go_ret
          rw [HY.out, HE.out]
          exact ⟨rfl, HB1.out⟩
      · have HG : Hid (badIns l = 0) := hid (HP.out.trans (bad_end hlt))
        have HR1 := HR
        clear hk HP HR
        go_wp2_with fail
        go_loopw [26] (fun i wr2 => ∃ k : Nat, k ≤ l.length ∧ i = .int .i64 k ∧ Hid (Below w.heap.size w wr2) ∧ Hid (jumpsOut l.length l = jumpsOut l.length (l.drop k))) (fun i _ => l.length - (intOf i).toNat)
        case atStart => exact ⟨0, Nat.zero_le _, rfl, HR1, hid rfl⟩
        case round =>
          obtain ⟨k, hk, rfl, HR, HP⟩ := hrel
          by_cases hlt : k < l.length
          · have hi : (0 : Int) ≤ (k : Int) := by omega
            have hkl : (k : Int) < (l.length : Int) := by omega
            obtain ⟨b, off, hab, hc0, hc1, hc2, hc3, hc4, hc5⟩ := code_at (HA.out.below HR.out) hlt
            subst hab
            have HOK := hid (fun h => HP.out.trans (out_ok (m := l.length) hlt h))
            have HNO := hid (fun h => HP.out.trans (out_no (m := l.length) hlt h))
            generalize l[k] = x at hc0 hc1 hc2 hc3 hc4 hc5 HOK HNO
            obtain ⟨op, xa, xb, t, xc, xn⟩ := x
            have HB := hid (HR.out.alloc HR.out.size (.cells #[.int .i64 op, .int .i64 xa, .int .i64 xb, .string t, .string xc, .string xn] 61))
            go_wp2_with fail
            refine (jumps_any op _).mono ?_
            rintro e w1 ⟨rfl, rfl⟩
            cases hj : jumpsOp op with
            | false =>
              have HN := hid (HOK.out (fun h => by rw [hj] at h; cases h.1))
              clear hj
              go_wp2
              go_roundw
              case rel => exact ⟨k + 1, by omega, by go_num, HB, HN⟩
              case measure => simp [intOf]; omega
            | true =>
              by_cases hx : (l.length : Int) ≤ xa
              · have HY : Hid (codeFault l = 2) := hid (by rw [HZ.out, if_neg (by rw [HG.out]; decide), if_pos (HNO.out ⟨hj, hx⟩)])
                clear hj
                go_wp2
                go_ret
                rw [HY.out]
                exact ⟨rfl, HB.out⟩
              · have HN := hid (HOK.out (fun h => hx h.2))
                clear hj
                go_wp2
                go_roundw
                case rel => exact ⟨k + 1, by omega, by go_num, HB, HN⟩
                case measure => simp [intOf]; omega
          · have HJ : Hid (jumpsOut l.length l = false) := hid (HP.out.trans (out_end hlt))
            clear hk HP
            by_cases h0 : l.length = 0
            · have HY : Hid (codeFault l = 8) := hid (by
                have hl : l = [] := List.eq_nil_of_length_eq_zero h0
                subst hl; rfl)
              have h0i : ((l.length : Int) == 0) = true := by rw [h0]; rfl
              have H0 := hid h0
              clear h0
              go_wp2
              go_ret
              rw [HY.out]
              exact ⟨rfl, HR.out⟩
            · obtain ⟨m, hm⟩ : ∃ m, l.length = m + 1 := ⟨l.length - 1, by omega⟩
              have hml : m < l.length := by omega
              have hm0 : ¬ l = [] := fun h => h0 (by rw [h]; rfl)
              have hm0b : ((l.length : Int) == 0) = false := by simp [hm0]
              have hmi : (l.length : Int) - 1 = (m : Int) := by omega
              have hm1 : (0 : Int) ≤ (m : Int) := by omega
              have hm2 : (m : Int) < (l.length : Int) := by omega
              have HL := hid (last_at hm)
              obtain ⟨b, off, hab, hc0, hc1, hc2, hc3, hc4, hc5⟩ := code_at (HA.out.below HR.out) hml
              subst hab
              generalize l[m] = x at hc0 hc1 hc2 hc3 hc4 hc5 HL
              obtain ⟨op, xa, xb, t, xc, xn⟩ := x
              clear hm hml h0
              go_wp2_with fail
              refine (ends_any op _).mono ?_
              rintro e w1 ⟨rfl, rfl⟩
              cases hE : endsOp op with
              | true =>
                have HY : Hid (codeFault l = 0) := hid (by rw [HZ.out, if_neg (by rw [HG.out]; decide), if_neg (by rw [HJ.out]; decide), if_pos (by rw [HL.out]; exact hE)])
                clear hE
                go_wp2
                go_ret
                rw [HY.out]
                exact ⟨rfl, HR.out⟩
              | false =>
                have HY : Hid (codeFault l = 8) := hid (by rw [HZ.out, if_neg (by rw [HG.out]; decide), if_neg (by rw [HJ.out]; decide), if_neg (by rw [HL.out, hE]; decide)])
                clear hE
                go_wp2
                go_ret
                rw [HY.out]
                exact ⟨rfl, HR.out⟩

end Go.Proofs.YtloeaihbnnnncaaGreatDoor.flows
