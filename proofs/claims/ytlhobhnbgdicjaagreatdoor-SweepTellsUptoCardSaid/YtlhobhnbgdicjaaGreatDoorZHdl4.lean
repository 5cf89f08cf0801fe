/- Handlers of a method: the reference's HandlersFault. Condition: the texts can be held. -/
import Derived.Test.YtlhobhnbgdicjaaGreatDoorZHdl1
namespace Go.Proofs.YtlhobhnbgdicjaaGreatDoor.hdls
open Go.RowKit lib errs names descs ins flows
set_option maxRecDepth 100000 in
set_option maxHeartbeats 2000000 in
theorem rhandlers_any (n : Nat) (vh : Value) (l : List Hd) (w : World) (hv : Hds w vh l) (hs : ∀ h ∈ l, h.cls.size ≤ 9223372036854775807) (hn : l.length ≤ 1000000000000) :
  Calls Tryz.prog 73 #[vh, .int .i64 (n : Int)] w fun e w' => e = .returned (.int .i64 (hdFault n l)) ∧ Below w.heap.size w w' := by
 obtain ⟨a, c, rfl⟩ := hv.val
 have HV := hid hv; have HS := hid hs
 clear hv hs
 go_enter Tryz.func73, Tryz.ntmps73
 go_wp2_with fail
 go_loopw [5] (fun i wr => ∃ k : Nat, k ≤ l.length ∧ i = .int .i64 k ∧ Hid (Below w.heap.size w wr) ∧ Hid (hdBad n l = hdBad n (l.drop k))) (fun i _ => l.length - (intOf i).toNat)
 case atStart => exact ⟨0, Nat.zero_le _, rfl, hid (Below.refl _ _), hid rfl⟩
 case round =>
  obtain ⟨k, hk, rfl, HBR, HP⟩ := hrel
  by_cases hlt : k < l.length
  ·obtain ⟨b, off, hab, hc0, hc1, hc2, hc3⟩ := hd_at (HV.out.below HBR.out) hlt
   subst hab
   have hi : (0 : Int) ≤ (k : Int) := by omega
   have hkl : (k : Int) < (l.length : Int) := by omega
   have hsz := HS.out _ (List.getElem_mem hlt)
   have HRG := hid (fun h => hd_range (n := n) hlt h)
   have HNM := hid (fun h h2 => hd_name (n := n) hlt h h2)
   have HST := hid (fun h h2 => hd_step (n := n) hlt h h2)
   generalize l[k] = x at hc0 hc1 hc2 hc3 hsz HRG HNM HST
   obtain ⟨fr, til, at_, cls⟩ := x
   have HE := hid (ext_alloc wr (.cells #[.int .i64 fr, .int .i64 til, .int .i64 at_, .string cls] 127))
   have HB2 := hid (HBR.out.trans (HE.out.mono HBR.out.size))
   by_cases h0 : fr < 0
   ·have HF : Hid (hdFault n l = 2) := hid (by unfold hdFault; rw [HP.out, HRG.out (by unfold hdIn; simp; omega)]; rfl)
    go_wp2
    go_ret
    rw [HF.out]
    exact ⟨rfl, HB2.out⟩
   by_cases h1 : til ≤ fr
   ·have HF : Hid (hdFault n l = 2) := hid (by unfold hdFault; rw [HP.out, HRG.out (by unfold hdIn; simp; omega)]; rfl)
    go_wp2
    go_ret
    rw [HF.out]
    exact ⟨rfl, HB2.out⟩
   by_cases h2 : (n : Int) < til
   ·have HF : Hid (hdFault n l = 2) := hid (by unfold hdFault; rw [HP.out, HRG.out (by unfold hdIn; simp; omega)]; rfl)
    go_wp2
    go_ret
    rw [HF.out]
    exact ⟨rfl, HB2.out⟩
   by_cases h3 : at_ < 0
   ·have HF : Hid (hdFault n l = 2) := hid (by unfold hdFault; rw [HP.out, HRG.out (by unfold hdIn; simp; omega)]; rfl)
    go_wp2
    go_ret
    rw [HF.out]
    exact ⟨rfl, HB2.out⟩
   by_cases h4 : (n : Int) ≤ at_
   ·have HF : Hid (hdFault n l = 2) := hid (by unfold hdFault; rw [HP.out, HRG.out (by unfold hdIn; simp; omega)]; rfl)
    go_wp2
    go_ret
    rw [HF.out]
    exact ⟨rfl, HB2.out⟩
   have HIN : Hid (hdIn n ⟨fr, til, at_, cls⟩ = true) := hid (by unfold hdIn; simp; omega)
   cases hN : nameOk cls.data.toList with
   | false =>
    have HF : Hid (hdFault n l = 1) := hid (by unfold hdFault; rw [HP.out, HNM.out HIN.out hN]; rfl)
    have HN := hid hN
    clear hN
    go_wp2_with fail
    refine (isName_any cls _ hsz).mono ?_
    rintro e w2 ⟨rfl, rfl⟩
    rw [HN.out]
    go_wp2
    go_ret
    rw [HF.out]
    exact ⟨rfl, HB2.out⟩
   | true =>
    have HPN := hid (HP.out.trans (HST.out HIN.out hN))
    have HN := hid hN
    clear hN
    go_wp2_with fail
    refine (isName_any cls _ hsz).mono ?_
    rintro e w2 ⟨rfl, rfl⟩
    rw [HN.out]
    go_wp2
    go_roundw
    case rel => exact ⟨k + 1, by omega, by go_num, HB2, HPN⟩
    case measure => simp [intOf]; omega
  ·have HZ : Hid (hdBad n l = 0) := hid (HP.out.trans (hd_end hlt))
   by_cases h8 : 8 < l.length
   ·have HF : Hid (hdFault n l = 4) := hid (by unfold hdFault; rw [HZ.out, if_neg (by decide), if_pos h8])
    have h8i : (8 : Int) < (l.length : Int) := by omega
    clear h8
    go_wp2
    go_ret
    rw [HF.out]
    exact ⟨rfl, HBR.out⟩
   ·have HF : Hid (hdFault n l = 0) := hid (by unfold hdFault; rw [HZ.out, if_neg (by decide), if_neg h8])
    have h8i : ¬ (8 : Int) < (l.length : Int) := by omega
    clear h8
    go_wp2
    go_ret
    rw [HF.out]
    exact ⟨rfl, HBR.out⟩
end Go.Proofs.YtlhobhnbgdicjaaGreatDoor.hdls
