/- code.Cut: its walk. Conditions: as ins.Parse; the bytes are bytes. -/
import Derived.Test.YtnhhaefoilhlhaaGreatDoorCut1
set_option linter.unusedSimpArgs false
set_option linter.unusedVariables false
namespace Go.Proofs.YtnhhaefoilhlhaaGreatDoor.txts
open Go.RowKit Go.Proofs.YtnhhaefoilhlhaaGreatDoor.lib Go.Proofs.YtnhhaefoilhlhaaGreatDoor.errs Go.Proofs.YtnhhaefoilhlhaaGreatDoor.names Go.Proofs.YtnhhaefoilhlhaaGreatDoor.descs Go.Proofs.YtnhhaefoilhlhaaGreatDoor.ins Go.Proofs.YtnhhaefoilhlhaaGreatDoor.nums Go.Proofs.YtnhhaefoilhlhaaGreatDoor.flows

set_option maxRecDepth 100000 in
set_option maxHeartbeats 4000000 in
theorem cut_from (a : Option Addr) (c : Nat) (b : List Int) (w0 w : World) (hb0 : Below w0.heap.size w0 w) (hs : Sl w0 (.slice a b.length c) b.length 1 (b.map (.int .u8))) (hb : ∀ z ∈ b, 0 ≤ z ∧ z ≤ 255) (hn : b.length ≤ 10000000) (hv : Vars w) :
    Calls Tryz.prog 40 #[.slice a b.length c] w (CutFrom w0 w b) := by
  have HB0 := hid hb0
  have HS := hid hs; have HB := hid hb; have HV := hid hv; have HN := hid hn
  clear hs hb hv hn hb0
  cases b with
  | nil =>
    go_enter Tryz.func40, Tryz.ntmps40
    go_wp2
    go_ret3
    exact cutFrom_none rfl (Below.refl _ _)
  | cons n0 r0 =>
    obtain ⟨hn0, hn1⟩ := HB.out n0 (List.mem_cons_self ..)
    obtain ⟨n, rfl⟩ : ∃ n : Nat, n0 = (n : Int) := ⟨n0.toNat, by omega⟩
    obtain ⟨bb, off, rfl, hc0⟩ := (HS.out.below HB0.out).ints (k := 0) (by simp)
    have hcap := HS.out.cap.2
    rw [List.length_cons] at hcap
    simp only [Nat.add_zero, List.getElem_cons_zero] at hc0
    obtain ⟨m, hm⟩ : ∃ m, r0.length = m := ⟨_, rfl⟩
    have HM := hid hm
    have HS1 : Hid (Sl w0 (.slice (some ⟨bb, off, none⟩) (m + 1) c) (m + 1) 1 (((n : Int) :: r0).map (.int .u8))) := hid (by have := HS.out; rwa [List.length_cons, hm] at this)
    have HN1 : Hid (m + 1 ≤ 10000000) := hid (by have := HN.out; rwa [List.length_cons, hm] at this)
    rw [List.length_cons, hm]
    rw [hm] at hcap
    clear HN
    have HN := HN1
    have hpos : ((m + 1 : Nat) : Int) ≠ 0 := by omega
    have hl1 : (1 : Int) ≤ ((m + 1 : Nat) : Int) := by omega
    have hl0 : (0 : Int) < ((m + 1 : Nat) : Int) := by omega
    by_cases h40 : 40 < n
    · have HNO := hid (show cutB ((n : Int) :: r0) = none from if_pos (by omega))
      have h40i : (40 : Int) < (n : Int) := by omega
      go_enter Tryz.func40, Tryz.ntmps40
      go_wp2
      go_ret3
      exact cutFrom_none HNO.out (Below.refl _ _)
    · have h40i : ¬ (40 : Int) < (n : Int) := by omega
      have HYES := hid (show cutB ((n : Int) :: r0) = cutF n r0 from (if_neg h40i).trans rfl)
      have HD := hid (HS1.out.drop 1 (by omega))
      have HR0 : Hid (Sl w0 (.slice (if c = 1 then some ⟨bb, off, none⟩ else some ⟨bb, off + 1, none⟩) m (c - 1)) r0.length 1 (r0.map (.int .u8))) := hid (by
        have := HD.out
        rw [HM.out]
        simpa [Addr.add] using this)
      go_enter Tryz.func40, Tryz.ntmps40
      go_wp2_with fail
      go_quiet (fail)
      go_wp2_with fail
      all_goals
        go_loopw [5, 7, 28] (fun v r i wr => ∃ k X R, Hid (CutRel w0 w wr ((n : Int) :: r0) n k v r X R) ∧ i = .int .i64 k) (fun _ _ i _ => n - (intOf i).toNat)
        case atStart => exact ⟨0, [], r0, hid ⟨Nat.zero_le _, (by have hq := HR0.out; first | exact hq | (have e1 : c = 1 := (by omega); rw [if_pos e1, show c - 1 = 0 by omega] at hq; exact hq) | (have e1 : ¬ c = 1 := (by omega); rw [if_neg e1] at hq; exact hq)), (Out.nil w _ _).later (below_drewN (Below.refl _ _) _), by rw [HYES.out]; simp, rfl, fun z hz => HB.out z (List.mem_cons_of_mem _ hz), by have := HN.out; have := HM.out; omega⟩, rfl⟩
        case round =>
          obtain ⟨k, X, R, HR, rfl⟩ := hrel
          obtain ⟨a', c', rfl⟩ := HR.out.rest.val
          have hk := HR.out.kle
          have hcap := HR.out.rest.cap.2
          have HL : Hid (Sl wr (.slice a' R.length c') R.length 1 (R.map (.int .u8))) := hid (HR.out.rest.below (HB0.out.trans (HR.out.out.below.mono HB0.out.size)))
          by_cases hkn : k < n
          · have k1 : (k : Int) < (n : Int) := by omega
            have ek : n - k = (n - k - 1) + 1 := by omega
            cases R with
            | nil =>
              have HNO := hid (cutRel_none HR.out (by rw [ek]; rfl))
              go_wp2
              go_ret3
              exact cutFrom_none HNO.out HR.out.out.below
            | cons z R' =>
              obtain ⟨hz0, hz1⟩ := HR.out.all z (List.mem_cons_self ..)
              obtain ⟨zn, rfl⟩ : ∃ zn : Nat, z = (zn : Int) := ⟨z.toNat, by omega⟩
              obtain ⟨b2, o2, rfl, hc2⟩ := HL.out.ints (k := 0) (by simp)
              simp only [Nat.add_zero, List.getElem_cons_zero] at hc2
              obtain ⟨m2, hm2⟩ : ∃ m2, R'.length = m2 := ⟨_, rfl⟩
              have HM2 := hid hm2
              have HLEN : Hid (m2 + 1 ≤ 10000000) := hid (by have := HR.out.len; rw [List.length_cons, hm2] at this; exact this)
              have HL2 : Hid (Sl wr (.slice (some ⟨b2, o2, none⟩) (m2 + 1) c') (m2 + 1) 1 (((zn : Int) :: R').map (.int .u8))) := hid (by have := HL.out; rwa [List.length_cons, hm2] at this)
              rw [List.length_cons, hm2] at hcap
              rw [List.length_cons, hm2]
              have p2 : (m2 : Int) ≤ 10000000 := by have := HLEN.out; omega
              have p3 : (0 : Int) ≤ (m2 : Int) := by omega
              have p0 : (0 : Int) < ((m2 + 1 : Nat) : Int) := by omega
              have p1 : ((m2 : Int) + 1 == 0) = false := by simp; omega
              by_cases hz : (m2 : Int) < (zn : Int)
              · have HNO := hid (cutRel_none HR.out (by rw [ek, cutF, if_pos (by rw [HM2.out]; exact hz)]))
                have hzw : wrap64 (m2 : Int) < (zn : Int) := by (have e : wrap64 (m2 : Int) = (m2 : Int) := by (unfold wrap64; omega)); rw [e]; exact hz
                go_wp2
                go_ret3
                exact cutFrom_none HNO.out HR.out.out.below
              · have HVR := hid (HV.out.below HR.out.out.below)
                have HXL : Hid (X.length ≤ 40) := hid (by have := HR.out.few; omega)
                have hzw : ¬ wrap64 (m2 : Int) < (zn : Int) := by (have e : wrap64 (m2 : Int) = (m2 : Int) := by (unfold wrap64; omega)); rw [e]; exact hz
                have HNZ : Hid (¬ (m2 : Int) < (zn : Int)) := hid hz
                have q1 : (zn : Int) ≤ (m2 : Int) := by omega
                have q2 : 1 + (zn : Int) ≤ (m2 : Int) + 1 := by omega
                have q3 : 1 + (zn : Int) ≤ (c' : Int) := by omega
                have q4 : (1 : Int) ≤ 1 + (zn : Int) := by omega
                have q5 : (0 : Int) ≤ 1 + (zn : Int) := by omega
                have HS2 : Hid (Sl wr (.slice (if c' = 1 then some ⟨b2, o2, none⟩ else some ⟨b2, o2 + 1, none⟩) zn (c' - 1)) zn 1 ((R'.take zn).map (.int .u8))) := hid (by
                  have := HL2.out.cut 1 (zn + 1) (by omega) (by omega)
                  simp only [Nat.mul_one, Nat.add_sub_cancel, Option.map_some, Addr.add_lit, List.map_cons, List.take_succ_cons, List.drop_succ_cons, List.drop_zero, ← List.map_take] at this
                  exact this)
                have hcs := run_conv_str (P := Tryz.prog) Tryz.underlying27 Tryz.underlying5 Tryz.underlying9 HS2.out
                obtain ⟨T, hT⟩ : ∃ T, strOfNums (R'.take zn) = T := ⟨_, rfl⟩
                rw [hT] at hcs
                have HT := hid hT
                have hTs : T.size ≤ 10000000 := by
                  have h1 : T.data.toList.length ≤ 10000000 := by rw [← hT, strOfNums_data, List.length_map, List.length_take]; have := HLEN.out; omega
                  rw [size_len] at h1; exact h1
                have HTS := hid hTs
                clear hT hTs
                go_wp2_with fail
                all_goals
                  refine (parse_any T wr HVR.out HTS.out).mono ?_
                  rintro e w5 ⟨hb5, he⟩
                  have HB5 := hid (HR.out.out.below.trans (hb5.mono HR.out.out.below.size))
                  have HO5 := hid (HR.out.out.later hb5)
                  clear hb5 hcs
                  cases hps : parseW T.data.toList with
                  | none =>
                    rw [hps] at he
                    obtain rfl : e = .returned (.tuple #[.agg #[.int .i64 0, .int .i64 0, .int .i64 0, .string { data := #[] }, .string { data := #[] }, .string { data := #[] }], .iface 36 (.int .i64 1)]) := he
                    have HNO := hid (cutRel_none HR.out (by rw [ek, cutF, if_neg (by rw [HM2.out]; have := HNZ.out; omega), Int.toNat_natCast, HT.out, hps]))
                    go_wp2
                    go_ret3
                    exact cutFrom_none HNO.out (HB5.out.alloc HB5.out.size _)
                  | some y =>
                    rw [hps] at he
                    have HPS := hid hps
                    clear hps
                    obtain ⟨yo, ya, yb, yt, yc, yn⟩ := y
                    obtain rfl : e = .returned (.tuple #[.agg #[.int .i64 yo, .int .i64 ya, .int .i64 yb, .string yt, .string yc, .string yn], .nilIface]) := he
                    go_wp2_with fail
                    obtain ⟨X6, hX6⟩ : ∃ X6, w5.alloc (.cells #[.int .i64 yo, .int .i64 ya, .int .i64 yb, .string yt, .string yc, .string yn] 109) = X6 := ⟨_, rfl⟩
                    have HX6 : Hid (Box X6 w5.heap.size ⟨yo, ya, yb, yt, yc, yn⟩) := hid (hX6 ▸ Box.new w5 ⟨yo, ya, yb, yt, yc, yn⟩ _)
                    have HO6 : Hid (Out w X6 109 6 u5 X.length (cellsOf X)) := hid (hX6 ▸ HO5.out.alloc _)
                    rw [hX6]
                    obtain ⟨y0, y1, y2, y3, y4, y5⟩ := HX6.out
                    simp only at y0 y1 y2 y3 y4 y5
                    clear hX6
                    go_region_law (refine step_append_out w _ _ rfl _ _ 56 rfl 109 (.agg #[.int .i64 0, .int .i64 0, .int .i64 0, .string { data := #[] }, .string { data := #[] }, .string { data := #[] }]) 6 72 1 Tryz.underlying56 infoC rfl (by decide) _ _ _ HO6.out.drew rfl rfl rfl (by intro x hx; simp at hx; rcases hx with rfl | rfl | rfl | rfl | rfl | rfl <;> rfl) (by have := HXL.out; omega) (by have := HXL.out; omega) (fun v' w' ho hg => ?_))
                    have hrw : Sl w0 (.slice (some ⟨b2, o2, none⟩) (m2 + 1) c') (m2 + 1) 1 (((zn : Int) :: R').map (.int .u8)) := by have := HR.out.rest; rwa [List.length_cons, HM2.out] at this
                    have hdr := hrw.drop (1 + zn) (by omega)
                    clear hrw
                    simp only [Nat.mul_one, Option.map_some, Addr.add_lit, List.map_cons, Nat.add_comm 1 zn, List.drop_succ_cons, ← List.map_drop] at hdr
                    have HDR := hid hdr
                    clear hdr
                    go_wp2
                    refine ⟨⟨k + 1, X ++ [⟨yo, ya, yb, yt, yc, yn⟩], R'.drop zn, hid (cutRel_step (R := R') (z := (zn : Int)) (x := ⟨yo, ya, yb, yt, yc, yn⟩) HR.out hkn (by rw [HM2.out]; have := HNZ.out; omega) (by rw [Int.toNat_natCast, HT.out]; exact HPS.out) ho ?_), by go_num⟩, ?_⟩
                    · rw [Int.toNat_natCast, List.length_drop, HM2.out]
                      have := HDR.out
                      rw [show m2 - zn = m2 + 1 - (zn + 1) by omega, show 1 + zn = zn + 1 by omega]
                      first | exact this | (have e1 : c' = 1 := (by omega); rw [e1, show 1 - (zn + 1) = 0 by omega] at this; exact this)
                    · simp [intOf]; omega
          · have e : k = n := by omega
            have HY := hid (show cutB ((n : Int) :: r0) = some (X, R) from by rw [HR.out.says, e, Nat.sub_self]; simp [cutF])
            have k1 : ¬ (k : Int) < (n : Int) := by omega
            go_wp2
            go_ret3
            exact cutFrom_some HY.out HR.out.out HR.out.rest

theorem cut_any (a : Option Addr) (c : Nat) (b : List Int) (w : World) (hs : Sl w (.slice a b.length c) b.length 1 (b.map (.int .u8))) (hb : ∀ z ∈ b, 0 ≤ z ∧ z ≤ 255) (hn : b.length ≤ 10000000) (hv : Vars w) :
    Calls Tryz.prog 40 #[.slice a b.length c] w (CutBy w b) := (cut_from a c b w w (Below.refl _ _) hs hb hn hv).mono fun _ _ h => cutBy_of h
end Go.Proofs.YtnhhaefoilhlhaaGreatDoor.txts
