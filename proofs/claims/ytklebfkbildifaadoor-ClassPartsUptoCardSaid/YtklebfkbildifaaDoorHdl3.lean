/- Handlers of a method: class.Handlers. Condition: the texts can be held. -/
import Derived.Test.YtklebfkbildifaaDoorHdl1
namespace Go.Proofs.YtklebfkbildifaaDoor.hdls
open Go.RowKit Go.Proofs.YtklebfkbildifaaDoor.lib Go.Proofs.YtklebfkbildifaaDoor.errs Go.Proofs.YtklebfkbildifaaDoor.names Go.Proofs.YtklebfkbildifaaDoor.descs Go.Proofs.YtklebfkbildifaaDoor.ins Go.Proofs.YtklebfkbildifaaDoor.flows

set_option maxRecDepth 100000 in
set_option maxHeartbeats 2000000 in
theorem handlers_any (nm ty : ByteArray) (st ab pr : Bool) (lo : Int) (ac : Option Addr) (n cc : Nat) (vh : Value) (l : List Hd) (w : World) (hv : Hds w vh l) (hs : ∀ h ∈ l, h.cls.size ≤ 9223372036854775807) (hn : l.length ≤ 1000000000000) :
    Calls Tryd.prog 45 #[.agg #[.string nm, .string ty, .bool st, .bool ab, .bool pr, .int .i64 lo, .slice ac n cc, vh]] w fun e w' => e = .returned (errVal (hdFault n l)) ∧ Below w.heap.size w w' := by
  obtain ⟨a, c, rfl⟩ := hv.val
  have HV := hid hv; have HS := hid hs
  have HB := hid (ext_alloc w (.cells #[.string nm, .string ty, .bool st, .bool ab, .bool pr, .int .i64 lo, .slice ac n cc, .slice a l.length c] 25))
  have HBX : Hid ((w.alloc (.cells #[.string nm, .string ty, .bool st, .bool ab, .bool pr, .int .i64 lo, .slice ac n cc, .slice a l.length c] 25)).cell? ⟨w.heap.size, 6, none⟩ = some (.slice ac n cc) ∧ (w.alloc (.cells #[.string nm, .string ty, .bool st, .bool ab, .bool pr, .int .i64 lo, .slice ac n cc, .slice a l.length c] 25)).cell? ⟨w.heap.size, 7, none⟩ = some (.slice a l.length c)) := hid ⟨by rw [World.cell?_alloc_at _ _ _ _ rfl]; rfl, by rw [World.cell?_alloc_at _ _ _ _ rfl]; rfl⟩
  clear hv hs
  go_enter Tryd.func45, Tryd.ntmps45
  go_wp2_with fail
  go_loopw [8] (fun i wr => ∃ k : Nat, k ≤ l.length ∧ i = .int .i64 k ∧ Hid (Below (w.alloc (.cells #[.string nm, .string ty, .bool st, .bool ab, .bool pr, .int .i64 lo, .slice ac n cc, .slice a l.length c] 25)).heap.size (w.alloc (.cells #[.string nm, .string ty, .bool st, .bool ab, .bool pr, .int .i64 lo, .slice ac n cc, .slice a l.length c] 25)) wr) ∧ Hid (hdBad n l = hdBad n (l.drop k))) (fun i _ => l.length - (intOf i).toNat)
  case atStart => exact ⟨0, Nat.zero_le _, rfl, hid (Below.refl _ _), hid rfl⟩
  case round =>
    obtain ⟨k, hk, rfl, HR, HP⟩ := hrel
    have HBR := hid (HB.out.trans (HR.out.mono HB.out.size))
    by_cases hlt : k < l.length
    · obtain ⟨b, off, hab, hc0, hc1, hc2, hc3⟩ := hd_at (HV.out.below HBR.out) hlt
      subst hab
      have hi : (0 : Int) ≤ (k : Int) := by omega
      have hkl : (k : Int) < (l.length : Int) := by omega
      have hsz := HS.out _ (List.getElem_mem hlt)
      have HRG := hid (fun h => hd_range (n := n) hlt h)
      have HNM := hid (fun h h2 => hd_name (n := n) hlt h h2)
      have HST := hid (fun h h2 => hd_step (n := n) hlt h h2)
      generalize l[k] = x at hc0 hc1 hc2 hc3 hsz HRG HNM HST
      obtain ⟨fr, to, at_, cls⟩ := x
      have HE := hid (ext_alloc wr (.cells #[.int .i64 fr, .int .i64 to, .int .i64 at_, .string cls] 35))
      have HB2 := hid (HBR.out.trans (HE.out.mono HBR.out.size))
      have hm6 : (wr.alloc (.cells #[.int .i64 fr, .int .i64 to, .int .i64 at_, .string cls] 35)).cell? ⟨w.heap.size, 6, none⟩ = some (.slice ac n cc) := by
        rw [(HR.out.trans (HE.out.mono HR.out.size)).cell (World.block_lt_of_cell? _ _ HBX.out.1)]; exact HBX.out.1
      by_cases h0 : fr < 0
      · have HF : Hid (hdFault n l = 2) := hid (by unfold hdFault; rw [HP.out, HRG.out (by unfold hdIn; simp; omega)]; rfl)
        go_wp2
        go_ret
        rw [HF.out]
        exact ⟨rfl, HB2.out⟩
      by_cases h1 : to ≤ fr
      · have HF : Hid (hdFault n l = 2) := hid (by unfold hdFault; rw [HP.out, HRG.out (by unfold hdIn; simp; omega)]; rfl)
        go_wp2
        go_ret
        rw [HF.out]
        exact ⟨rfl, HB2.out⟩
      by_cases h2 : (n : Int) < to
      · have HF : Hid (hdFault n l = 2) := hid (by unfold hdFault; rw [HP.out, HRG.out (by unfold hdIn; simp; omega)]; rfl)
        go_wp2
        go_ret
        rw [HF.out]
        exact ⟨rfl, HB2.out⟩
      by_cases h3 : at_ < 0
      · have HF : Hid (hdFault n l = 2) := hid (by unfold hdFault; rw [HP.out, HRG.out (by unfold hdIn; simp; omega)]; rfl)
        go_wp2
        go_ret
        rw [HF.out]
        exact ⟨rfl, HB2.out⟩
      by_cases h4 : (n : Int) ≤ at_
      · have HF : Hid (hdFault n l = 2) := hid (by unfold hdFault; rw [HP.out, HRG.out (by unfold hdIn; simp; omega)]; rfl)
        go_wp2
        go_ret
        rw [HF.out]
        exact ⟨rfl, HB2.out⟩
      have HIN : Hid (hdIn n ⟨fr, to, at_, cls⟩ = true) := hid (by unfold hdIn; simp; omega)
      cases hN : nameOk cls.data.toList with
      | false =>
        have HF : Hid (hdFault n l = 1) := hid (by unfold hdFault; rw [HP.out, HNM.out HIN.out hN]; rfl)
        have HN := hid hN
        clear hN
        go_wp2_with fail
        refine (check_any cls _ hsz).mono ?_
        intro e w2 h2'
        obtain ⟨rfl, hb2⟩ := checked_false h2' HN.out
        clear h2'
        go_wp2
        go_ret
        rw [HF.out]
        exact ⟨rfl, HB2.out.trans (hb2.mono HB2.out.size)⟩
      | true =>
        have HPN := hid (HP.out.trans (HST.out HIN.out hN))
        have HN := hid hN
        clear hN
        go_wp2_with fail
        refine (check_any cls _ hsz).mono ?_
        intro e w2 h2'
        obtain ⟨rfl, hb2⟩ := checked_true h2' HN.out
        have HR2 := hid ((HR.out.trans (HE.out.mono HR.out.size)).trans (hb2.mono (HR.out.trans (HE.out.mono HR.out.size)).size))
        clear h2' hb2
        go_wp2
        go_roundw
        case rel => exact ⟨k + 1, by omega, by go_num, HR2, HPN⟩
        case measure => simp [intOf]; omega
    · have HZ : Hid (hdBad n l = 0) := hid (HP.out.trans (hd_end hlt))
      have hm7 : wr.cell? ⟨w.heap.size, 7, none⟩ = some (.slice a l.length c) := by
        rw [HR.out.cell (World.block_lt_of_cell? _ _ HBX.out.2)]; exact HBX.out.2
      by_cases h8 : 8 < l.length
      · have HF : Hid (hdFault n l = 4) := hid (by unfold hdFault; rw [HZ.out, if_neg (by decide), if_pos h8])
        have h8i : (8 : Int) < (l.length : Int) := by omega
        clear h8
        go_wp2
        go_ret
        rw [HF.out]
        exact ⟨rfl, HBR.out⟩
      · have HF : Hid (hdFault n l = 0) := hid (by unfold hdFault; rw [HZ.out, if_neg (by decide), if_neg h8])
        have h8i : ¬ (8 : Int) < (l.length : Int) := by omega
        clear h8
        go_wp2
        go_ret
        rw [HF.out]
        exact ⟨rfl, HBR.out⟩
end Go.Proofs.YtklebfkbildifaaDoor.hdls
