/- The law TrimOwn: its walk. Conditions: the table lies in its variable; the method is not long. -/
import Derived.Test.YtklebfkbildifaaDoorTrim13
import Derived.Test.YtklebfkbildifaaDoorSameM
import Derived.Test.YtklebfkbildifaaDoorNamed
namespace Go.Proofs.YtklebfkbildifaaDoor.trims
open Go.RowKit Go.Proofs.YtklebfkbildifaaDoor.lib Go.Proofs.YtklebfkbildifaaDoor.errs Go.Proofs.YtklebfkbildifaaDoor.names Go.Proofs.YtklebfkbildifaaDoor.descs Go.Proofs.YtklebfkbildifaaDoor.ins Go.Proofs.YtklebfkbildifaaDoor.reach Go.Proofs.YtklebfkbildifaaDoor.flows Go.Proofs.YtklebfkbildifaaDoor.hdls Go.Proofs.YtklebfkbildifaaDoor.mseen Go.Proofs.YtklebfkbildifaaDoor.classes Go.Proofs.YtklebfkbildifaaDoor.grow Go.Proofs.YtklebfkbildifaaDoor.keep

theorem own_row {w : World} {B : Nat} {e : TypeId} {sz : Nat} {a : Option Addr} {n c : Nat} {xs : List Value} (h : w.ownsRow B e sz (.slice a n c) n xs) :
    n ≤ maxLen ∧ ∃ g, B ≤ g ∧ (n = 0 ∧ w.heap.size ≤ g ∨ g < w.heap.size ∧ a = some ⟨g, 0, none⟩ ∧ ∃ cur, w.heap[g]? = some (.cells cur e (0, 0)) ∧ n * sz ≤ cur.size) := by
  rcases h.2 with ⟨hv, h0⟩ | ⟨g, cap, cur, hv, hb, hg, hn, hm, hs, ht⟩
  · subst h0
    exact ⟨Nat.zero_le _, B + w.heap.size, by omega, .inl ⟨rfl, by omega⟩⟩
  · simp only [Value.slice.injEq] at hv
    obtain ⟨rfl, _, rfl⟩ := hv
    have hlt : g < w.heap.size := by
      rcases Nat.lt_or_ge g w.heap.size with h' | h'
      · exact h'
      · rw [Array.getElem?_eq_none h'] at hg; cases hg
    exact ⟨Nat.le_trans hn hm, g, hb, .inr ⟨hlt, rfl, cur, hg, by rw [hs]; exact Nat.mul_le_mul_right _ hn⟩⟩
/-- a row that may be written -/
def Open (w : World) (g : Nat) (e : TypeId) (N : Nat) : Prop := ∃ cur : Array Value, w.heap[g]? = some (.cells cur e (0, 0)) ∧ N ≤ cur.size

set_option maxRecDepth 100000 in
set_option maxHeartbeats 8000000 in
theorem trimown_any (m : MV) (w : World) (hm : m.At w) (hf : FormsAt w) (hsm : SmallM m) :
    Calls Tryd.prog 3 #[.agg m.cells.toArray] w fun e w' => e = .returned (.bool true) ∧ Below w.heap.size w w' := by
  have HF := hid hf
  obtain ⟨nm, ty, st, ab, pr, lo, vc, vh, code, hs⟩ := m
  obtain ⟨hc, hv⟩ := hm
  have HSM := hid (show SmallM ⟨nm, ty, st, ab, pr, lo, .nilIface, .nilIface, code, hs⟩ from ⟨hsm.nm, hsm.ty, hsm.len, hsm.code, hsm.hlen, hsm.hs⟩)
  have hcl : code.length ≤ 1048576 := hsm.len
  have hhl : hs.length ≤ 1048576 := hsm.hlen
  simp only [MV.cells] at hc hv ⊢
  obtain ⟨ac, cc, rfl⟩ := hc.val
  obtain ⟨ah, ch, rfl⟩ := hv.val
  have HC := hid hc
  have HV := hid hv
  obtain ⟨W0, hW0⟩ : ∃ W0, w.alloc (.cells #[.string nm, .string ty, .bool st, .bool ab, .bool pr, .int .i64 lo, .slice ac code.length cc, .slice ah hs.length ch] 25) = W0 := ⟨_, rfl⟩
  have HBX : Hid (W0.heap[w.heap.size]? = some (.cells #[.string nm, .string ty, .bool st, .bool ab, .bool pr, .int .i64 lo, .slice ac code.length cc, .slice ah hs.length ch] 25)) := hid (by subst hW0; exact heap_alloc_new _ _)
  have HB0 : Hid (Below w.heap.size w W0 ∧ w.heap.size < W0.heap.size) := hid (by subst hW0; exact ⟨ext_alloc _ _, by rw [World.size_alloc]; exact Nat.lt_succ_self _⟩)
  clear hc hv hf hsm
  go_enter Tryd.func3, Tryd.ntmps3
  go_wp2_with fail
  refine (named_any W0).mono ?_
  rintro e w1 ⟨rfl, hb1⟩
  have HX1 := hid ((hb1.block _ HB0.out.2).trans HBX.out)
  have HB1 := hid (HB0.out.1.trans (hb1.mono HB0.out.1.size))
  have HL1 := hid (Nat.lt_of_lt_of_le HB0.out.2 hb1.size)
  clear hb1 hW0
  have HMC := hid (mcopy_any nm ty st ab pr lo (.slice ac code.length cc) (.slice ah hs.length ch) code hs w1 (HC.out.below HB1.out) (HV.out.below HB1.out) (by omega) (by omega))
  go_wp2_with (refine wpList_load_row rfl 25 (.tmp 1) rfl w.heap.size rfl _ _ _ _ HX1.out Tryd.underlying25 rfl (by kernel_rfl) ?_)
  refine HMC.out.mono ?_
  rintro e w2 ⟨v6, v7, rfl, ho6, ho7, hb2⟩
  obtain ⟨a6, c6, rfl⟩ := (sl_of_owns ho6).val
  obtain ⟨a7, c7, rfl⟩ := (sl_of_owns ho7).val
  have HO6 := hid ho6
  have HO7 := hid ho7
  have HX2 := hid ((hb2.block _ HL1.out).trans HX1.out)
  have HB2 := hid (HB1.out.trans (hb2.mono HB1.out.size))
  have HL2 := hid (Nat.lt_of_lt_of_le HL1.out hb2.size)
  clear ho6 ho7 hb2
  obtain ⟨W3, hW3⟩ : ∃ W3, w2.alloc (.cells #[.string nm, .string ty, .bool st, .bool ab, .bool pr, .int .i64 lo, .slice a6 code.length c6, .slice a7 hs.length c7] 25) = W3 := ⟨_, rfl⟩
  have H3 : Hid (Below w2.heap.size w2 W3 ∧ w2.heap.size < W3.heap.size ∧ W3.heap[w2.heap.size]? = some (.cells #[.string nm, .string ty, .bool st, .bool ab, .bool pr, .int .i64 lo, .slice a6 code.length c6, .slice a7 hs.length c7] 25)) := hid (by subst hW3; exact ⟨ext_alloc _ _, by rw [World.size_alloc]; exact Nat.lt_succ_self _, heap_alloc_new _ _⟩)
  have HB3 := hid (HB2.out.trans (H3.out.1.mono HB2.out.size))
  have HMT := hid (tmethod_any ⟨nm, ty, st, ab, pr, lo, .slice a6 code.length c6, .slice a7 hs.length c7, code, hs⟩ W3 ⟨(sl_of_owns HO6.out).below H3.out.1, (sl_of_owns HO7.out).below H3.out.1⟩ (HF.out.below HB3.out) ⟨HSM.out.nm, HSM.out.ty, HSM.out.len, HSM.out.code, HSM.out.hlen, HSM.out.hs⟩)
  obtain ⟨FZ, hFZ⟩ : ∃ FZ, tmFault code hs = FZ := ⟨_, rfl⟩
  simp only [MV.cells, hFZ] at HMT
  have HFZ := hid hFZ
  clear hFZ
  go_wp2_with (refine wpList_load_row rfl 25 (.tmp 4) rfl w2.heap.size rfl _ _ _ _ H3.out.2.2 Tryd.underlying25 rfl (by kernel_rfl) ?_)
  refine HMT.out.mono ?_
  rintro e w4 ⟨r, rfl, hT, hb4⟩
  have HTO := hid hT
  obtain ⟨r1, r2, r3, r4, r5, r6, vx6, vx7, RC, RH⟩ := r
  obtain ⟨hr6, hr7⟩ := hT.own
  simp only at hr6 hr7
  obtain ⟨x6, y6, rfl⟩ := (sl_of_owns hr6).val
  obtain ⟨x7, y7, rfl⟩ := (sl_of_owns hr7).val
  obtain ⟨hn6, g6, hg6, hg6'⟩ := own_row hr6
  obtain ⟨hn7, g7, hg7, hg7'⟩ := own_row hr7
  unfold maxLen at hn6 hn7
  have HW34 := hid hb4
  have HB4 := hid (HB3.out.trans (hb4.mono HB3.out.size))
  have HX4 := hid ((hb4.block _ (Nat.lt_trans HL2.out H3.out.2.1)).trans ((H3.out.1.block _ HL2.out).trans HX2.out))
  have HR4 := hid ((hb4.block _ H3.out.2.1).trans H3.out.2.2)
  have HG6 := hid hg6
  have HG7 := hid hg7
  clear hT hr6 hr7 hb4 hW3
  obtain ⟨W5, hW5⟩ : ∃ W5, w4.alloc (.cells #[.string r1, .string r2, .bool r3, .bool r4, .bool r5, .int .i64 r6, .slice x6 RC.length y6, .slice x7 RH.length y7] 25) = W5 := ⟨_, rfl⟩
  have H5 : Hid (Below w4.heap.size w4 W5 ∧ W5.heap.size = w4.heap.size + 1 ∧ W5.heap[w4.heap.size]? = some (.cells #[.string r1, .string r2, .bool r3, .bool r4, .bool r5, .int .i64 r6, .slice x6 RC.length y6, .slice x7 RH.length y7] 25)) := hid (by subst hW5; exact ⟨ext_alloc _ _, by rw [World.size_alloc], heap_alloc_new _ _⟩)
  -- the blocks that may be written: at or above W3's end, and none of the three boxes
  have HP6 : Hid (RC.length = 0 ∨ (g6 ≠ w4.heap.size ∧ x6 = some ⟨g6, 0, none⟩ ∧ Open W5 g6 33 (RC.length * 6))) := hid (by
    rcases hg6' with ⟨h, _⟩ | ⟨hlt, ha, cur, hcur, hle⟩
    · exact .inl h
    · exact .inr ⟨by omega, ha, cur, (H5.out.1.block _ hlt).trans hcur, hle⟩)
  have HP7 : Hid (RH.length = 0 ∨ (g7 ≠ w4.heap.size ∧ x7 = some ⟨g7, 0, none⟩ ∧ Open W5 g7 35 (RH.length * 4))) := hid (by
    rcases hg7' with ⟨h, _⟩ | ⟨hlt, ha, cur, hcur, hle⟩
    · exact .inl h
    · exact .inr ⟨by omega, ha, cur, (H5.out.1.block _ hlt).trans hcur, hle⟩)
  clear hg6' hg7' hg6 hg7
  have q6 : W5.cell? ⟨w4.heap.size, 6, none⟩ = some (.slice x6 RC.length y6) := by rw [cell_of_row _ _ _ _ _ _ H5.out.2.2]; rfl
  go_wp2_with fail
  clear q6 hW5
  go_loopw [7] (fun i wr => ∃ k : Nat, k ≤ RC.length ∧ i = .int .i64 k ∧ Hid (Keeps (fun j => j = g6 ∧ RC.length ≠ 0) W5 wr) ∧ Hid (RC.length = 0 ∨ Open wr g6 33 (RC.length * 6))) (fun i _ => RC.length - (intOf i).toNat)
  case atStart => exact ⟨0, Nat.zero_le _, rfl, hid (Keeps.refl _ _), hid (HP6.out.imp id (fun h => h.2.2))⟩
  case round =>
    obtain ⟨k, hk, rfl, HK, HO⟩ := hrel
    have HRA : Hid (wr.heap[w4.heap.size]? = some (.cells #[.string r1, .string r2, .bool r3, .bool r4, .bool r5, .int .i64 r6, .slice x6 RC.length y6, .slice x7 RH.length y7] 25)) := hid ((HK.out.block _ (by have := H5.out.2.1; omega) (fun h => by
      rcases HP6.out with h0 | ⟨h1, _⟩
      · exact h.2 h0
      · exact h1 h.1.symm)).trans H5.out.2.2)
    have q6 : wr.cell? ⟨w4.heap.size, 6, none⟩ = some (.slice x6 RC.length y6) := by rw [cell_of_row _ _ _ _ _ _ HRA.out]; rfl
    by_cases hlt : k < RC.length
    · obtain ⟨_, hx6, _⟩ := HP6.out.resolve_left (by omega)
      obtain ⟨cur, hcur, hle⟩ := HO.out.resolve_left (by omega)
      have HCUR := hid hcur
      have HLE := hid hle
      clear hcur hle
      subst hx6
      have hi : (0 : Int) ≤ (k : Int) := by omega
      have hkl : (k : Int) < (RC.length : Int) := by omega
      go_wp2_with (refine wpList_store_at rfl 33 (.tmp 31) (.tmp 30) rfl g6 (k * 6) #[.int .i64 99, .int .i64 0, .int .i64 0, .string { data := #[] }, .string { data := #[] }, .string { data := #[] }] rfl rfl 33 cur HCUR.out (by kernel_rfl) (by have := HLE.out; simp; omega) (by simp [Value.oneCell']) ?_)
      intro new hnew
      have HK2 : Hid (Keeps (fun j => j = g6 ∧ RC.length ≠ 0) W5 (wr.setRow g6 new)) := hid (HK.out.then (keeps_row wr g6 new) (fun _ _ h => ⟨h, by omega⟩))
      have HO2 : Hid (RC.length = 0 ∨ Open (wr.setRow g6 new) g6 33 (RC.length * 6)) := hid (.inr ⟨new, setRow_heap _ _ _ _ _ _ HCUR.out, by rw [hnew]; exact HLE.out⟩)
      clear hnew q6
      go_wp2_with fail
      go_roundw
      case rel => exact ⟨k + 1, by omega, by go_num, HK2, HO2⟩
      case measure => simp [intOf]; omega
    · obtain rfl : k = RC.length := by omega
      have hge : ¬ (RC.length : Int) < (RC.length : Int) := by omega
      obtain ⟨W6, hW6⟩ : ∃ W, W = wr := ⟨_, rfl⟩
      subst hW6
      have HP8 : Hid (RH.length = 0 ∨ (g7 ≠ w4.heap.size ∧ x7 = some ⟨g7, 0, none⟩ ∧ Open W6 g7 35 (RH.length * 4))) := hid (by
        rcases HP7.out with h | ⟨h1, h2, cur, hcur, hle⟩
        · exact .inl h
        · refine .inr ⟨h1, h2, cur, (HK.out.block g7 (Array.getElem?_eq_some_iff.1 hcur).1 ?_).trans hcur, hle⟩
          rintro ⟨rfl, hne⟩
          obtain ⟨_, _, cur2, hcur2, _⟩ := HP6.out.resolve_left hne
          rw [hcur] at hcur2
          simp at hcur2)
      have q7 : W6.cell? ⟨w4.heap.size, 7, none⟩ = some (.slice x7 RH.length y7) := by rw [cell_of_row _ _ _ _ _ _ HRA.out]; rfl
      go_wp2_with fail
      clear q6 q7 hge
      go_loopw [8] (fun i wr => ∃ k : Nat, k ≤ RH.length ∧ i = .int .i64 k ∧ Hid (Keeps (fun j => j = g7 ∧ RH.length ≠ 0) W6 wr) ∧ Hid (RH.length = 0 ∨ Open wr g7 35 (RH.length * 4))) (fun i _ => RH.length - (intOf i).toNat)
      case atStart => exact ⟨0, Nat.zero_le _, rfl, hid (Keeps.refl _ _), hid (HP8.out.imp id (fun h => h.2.2))⟩
      case round =>
        obtain ⟨j, hj, rfl, HK8, HO8⟩ := hrel
        have HRA8 : Hid (wr.heap[w4.heap.size]? = some (.cells #[.string r1, .string r2, .bool r3, .bool r4, .bool r5, .int .i64 r6, .slice x6 RC.length y6, .slice x7 RH.length y7] 25)) := hid ((HK8.out.block _ (Nat.lt_of_lt_of_le (by have := H5.out.2.1; omega) HK.out.size) (fun h => by
          rcases HP8.out with h0 | ⟨h1, _⟩
          · exact h.2 h0
          · exact h1 h.1.symm)).trans HRA.out)
        have q7 : wr.cell? ⟨w4.heap.size, 7, none⟩ = some (.slice x7 RH.length y7) := by rw [cell_of_row _ _ _ _ _ _ HRA8.out]; rfl
        by_cases hlt8 : j < RH.length
        · obtain ⟨_, hx7, _⟩ := HP8.out.resolve_left (by omega)
          obtain ⟨cur, hcur, hle⟩ := HO8.out.resolve_left (by omega)
          have HCUR := hid hcur
          have HLE := hid hle
          clear hcur hle
          subst hx7
          have hi : (0 : Int) ≤ (j : Int) := by omega
          have hkl : (j : Int) < (RH.length : Int) := by omega
          go_wp2_with (refine wpList_store_at rfl 35 (.tmp 43) (.tmp 42) rfl g7 (j * 4) #[.int .i64 0, .int .i64 0, .int .i64 0, .string { data := #[63] }] rfl rfl 35 cur HCUR.out (by kernel_rfl) (by have := HLE.out; simp; omega) (by simp [Value.oneCell']) ?_)
          intro new hnew
          have HK2 : Hid (Keeps (fun j => j = g7 ∧ RH.length ≠ 0) W6 (wr.setRow g7 new)) := hid (HK8.out.then (keeps_row wr g7 new) (fun _ _ h => ⟨h, by omega⟩))
          have HO2 : Hid (RH.length = 0 ∨ Open (wr.setRow g7 new) g7 35 (RH.length * 4)) := hid (.inr ⟨new, setRow_heap _ _ _ _ _ _ HCUR.out, by rw [hnew]; exact HLE.out⟩)
          clear hnew q7
          go_wp2_with fail
          go_roundw
          case rel => exact ⟨j + 1, by omega, by go_num, HK2, HO2⟩
          case measure => simp [intOf]; omega
        · obtain rfl : j = RH.length := by omega
          have hge : ¬ (RH.length : Int) < (RH.length : Int) := by omega
          have s3 := H3.out.2.1
          have s5 := H5.out.2.1
          have s34 := HW34.out.size
          have hG6 := HG6.out
          have hG7 := HG7.out
          have HKA : Hid (∀ G, G < W3.heap.size → wr.heap[G]? = w4.heap[G]?) := hid (fun G hG => by
            have t1 := HK.out.size
            exact (HK8.out.block G (by omega) (fun h => by have := h.1; omega)).trans ((HK.out.block G (by omega) (fun h => by have := h.1; omega)).trans (H5.out.1.block G (by omega))))
          have l2 := HL2.out
          have HX9 := hid ((HKA.out w.heap.size (by omega)).trans HX4.out)
          have HR9 := hid ((HKA.out w2.heap.size (by omega)).trans HR4.out)
          have HBW3 : Hid (Below W3.heap.size W3 wr) := hid ⟨HK8.out.os.trans (HK.out.os.trans (H5.out.1.os.trans HW34.out.os)), HK8.out.tape.trans (HK.out.tape.trans (H5.out.1.tape.trans HW34.out.tape)), HK8.out.output.trans (HK.out.output.trans (H5.out.1.output.trans HW34.out.output)), (by have t1 := HK.out.size; have t2 := HK8.out.size; omega), fun G hG => (HKA.out G hG).trans (HW34.out.block G hG)⟩
          have HBW2 := hid (H3.out.1.trans (HBW3.out.mono H3.out.1.size))
          have HBW := hid (HB3.out.trans (HBW3.out.mono HB3.out.size))
          have q6 : wr.cell? ⟨w4.heap.size, 6, none⟩ = some (.slice x6 RC.length y6) := by rw [cell_of_row _ _ _ _ _ _ HRA8.out]; rfl
          clear s3 s5 s34 hG6 hG7 l2 q6
          go_wp2_with (first
            | refine wpList_load_row rfl 25 (.tmp 4) rfl w2.heap.size rfl _ _ _ _ HR9.out Tryd.underlying25 rfl (by kernel_rfl) ?_
            | refine wpList_load_row rfl 25 (.tmp 1) rfl w.heap.size rfl _ _ _ _ HX9.out Tryd.underlying25 rfl (by kernel_rfl) ?_)
          refine (smet_same nm ty st ab pr lo (.slice a6 code.length c6) (.slice a7 hs.length c7) (.slice ac code.length cc) (.slice ah hs.length ch) code hs wr ((sl_of_owns HO6.out).below HBW2.out) ((sl_of_owns HO7.out).below HBW2.out) (HC.out.below HBW.out) (HV.out.below HBW.out) (by omega) (by omega)).mono ?_
          rintro e w9 ⟨rfl, hb9⟩
          have HB9 := hid (HBW.out.trans (hb9.mono HBW.out.size))
          have HA9 := hid ((hb9.block _ (Nat.lt_of_lt_of_le (Nat.lt_of_lt_of_le (by have := H5.out.2.1; omega) HK.out.size) HK8.out.size)).trans HRA8.out)
          have q6 : w9.cell? ⟨w4.heap.size, 6, none⟩ = some (.slice x6 RC.length y6) := by rw [cell_of_row _ _ _ _ _ _ HA9.out]; rfl
          clear hb9 q7 hge
          by_cases hz : FZ = 0
          · rw [errVal_zero hz]
            clear hz
            go_wp2_with fail
            go_ret
            exact ⟨rfl, HB9.out⟩
          · have hRC : RC = [] := (HTO.out.no (by rw [HFZ.out]; exact hz)).2.2.2.2.2.2.2.2.1
            rw [errVal_ne hz]
            clear hz
            rw [show RC.length = 0 from by rw [hRC]; rfl] at q6
            clear hRC
            go_wp2_with fail
            go_ret
            exact ⟨rfl, HB9.out⟩
end Go.Proofs.YtklebfkbildifaaDoor.trims
