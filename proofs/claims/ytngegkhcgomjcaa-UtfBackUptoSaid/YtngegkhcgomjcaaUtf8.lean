/- The law UtfTells' walk. Condition: the two lists are short. -/
import Derived.Test.YtngegkhcgomjcaaUtf7
import Derived.Test.YtngegkhcgomjcaaErr
namespace Go.Proofs.Ytngegkhcgomjcaa.utfs
open Go.RowKit Go.Proofs.Ytngegkhcgomjcaa.lib Go.Proofs.Ytngegkhcgomjcaa.grow Go.Proofs.Ytngegkhcgomjcaa.errs

theorem decoded_some {w w' : World} {bs us : List Int} {e : Ending} (hd : decL bs = some us) (h : Decoded w bs e w') : ∃ v, e = .returned (.tuple #[v, .nilIface]) ∧ Out w w' 35 1 v us.length (us.map (.int .u16)) := by
  unfold Decoded at h; rw [hd] at h; exact h
theorem decoded_none {w w' : World} {bs : List Int} {e : Ending} (hd : decL bs = none) (h : Decoded w bs e w') : e = .returned (.tuple #[.slice none 0 0, .iface 33 (.int .i64 1)]) ∧ Below w.heap.size w w' := by
  unfold Decoded at h; rw [hd] at h; exact h
theorem decoded2_some {w w' : World} {bs us : List Int} {e : Ending} (hd : decL bs = some us) (h : Decoded2 w bs e w') : ∃ v, e = .returned (.tuple #[v, .bool true]) ∧ Out w w' 35 1 v us.length (us.map (.int .u16)) := by
  unfold Decoded2 at h; rw [hd] at h; exact h
theorem decoded2_none {w w' : World} {bs : List Int} {e : Ending} (hd : decL bs = none) (h : Decoded2 w bs e w') : e = .returned (.tuple #[.slice none 0 0, .bool false]) ∧ Below w.heap.size w w' := by
  unfold Decoded2 at h; rw [hd] at h; exact h
theorem decF_le : ∀ (f : Nat) (bs us : List Int), decF f bs = some us → us.length ≤ f
  | 0, _, us, h => by simp [decF] at h; subst h; simp
  | f + 1, bs, us, h => by
    simp only [decF] at h
    split at h
    · simp at h; subst h; simp
    · split at h
      · cases h
      · obtain ⟨r, hr, rfl⟩ := Option.map_eq_some_iff.1 h
        have := decF_le f _ r hr
        simp; omega
theorem decL_le {bs us : List Int} (h : decL bs = some us) : us.length ≤ bs.length := decF_le _ _ _ h

set_option maxHeartbeats 1000000 in
theorem tells_any (a b : Option Addr) (c d : Nat) (zs bs : List Int) (w : World) (ha : Sl w (.slice a zs.length c) zs.length 1 (zs.map (.int .u16))) (hb : Sl w (.slice b bs.length d) bs.length 1 (bs.map (.int .u8)))
    (hz : ∀ z ∈ zs, 0 ≤ z ∧ z ≤ 65535) (hy : ∀ z ∈ bs, 0 ≤ z ∧ z ≤ 255) (hn : zs.length ≤ 2000000) (hm : bs.length ≤ 2000000) :
    Calls Try.prog 4 #[.slice a zs.length c, .slice b bs.length d] w fun e w' => e = .returned (.bool true) ∧ Below w.heap.size w w' := by
  have HA := hid ha; have HB := hid hb; have HZ := hid hz; have HY := hid hy; clear ha hb hz hy
  go_enter Try.func4, Try.ntmps4
  go_wp2_with fail
  refine (euro_any _).mono ?_
  rintro e w1 ⟨rfl, hb1⟩
  have HA1 := hid (HA.out.below hb1); have HB1 := hid (HB.out.below hb1)
  clear HA HB
  cases hd : decL bs with
  | some us =>
    have hum := decL_le hd
    have HDS := hid hd; clear hd
    go_wp2_with fail
    refine (decode_any b d bs w1 HB1.out HY.out (by omega)).mono ?_
    rintro e w2 hD2
    have hD2 := decoded_some HDS.out hD2
    obtain ⟨v2, rfl, ho2⟩ := hD2
    have HS2 := hid ho2.sl
    obtain ⟨a2, c2, rfl⟩ := HS2.out.val
    have hb2 := ho2.below
    clear ho2
    have HB2 := hid (HB1.out.below hb2); have HA2 := hid (HA1.out.below hb2)
    go_wp2_with fail
    refine (unitsOf_any b d bs w2 HB2.out HY.out (by omega)).mono ?_
    rintro e w3 hD3
    obtain ⟨v3, rfl, ho3⟩ := decoded2_some HDS.out hD3
    have HS3 := hid ho3.sl
    obtain ⟨a3, c3, rfl⟩ := HS3.out.val
    have hb3 := ho3.below
    clear ho3
    have HS4 := hid (HS2.out.below hb3); have HA5 := hid (HA2.out.below hb3)
    clear HS2 HA1 HA2 HB1 HB2
    go_wp2_with fail
    refine (error_ok w3).mono ?_
    rintro e w4 ⟨rfl, rfl⟩
    have hb13 : Below w.heap.size w w3 := hb1.trans ((hb2.trans (hb3.mono hb2.size)).mono hb1.size)
    have HBF := hid hb13; clear hb13 hb1 hb2 hb3
    go_wp2
    go_loopw [12] (fun i wr => ∃ k : Nat, k ≤ us.length ∧ i = .int .i64 k ∧ Hid (Below w3.heap.size w3 wr)) (fun i _ => us.length - (intOf i).toNat)
    case atStart => exact ⟨0, Nat.zero_le _, rfl, hid (Below.refl _ _)⟩
    case round =>
      obtain ⟨k, hk, rfl, HR⟩ := hrel
      by_cases hlt : k < us.length
      · obtain ⟨bx, ox, hax, hcx⟩ := (HS4.out.below HR.out).ints hlt
        obtain ⟨by_, oy, hay, hcy⟩ := (HS3.out.below HR.out).ints hlt
        subst hax
        subst hay
        have hi : (0 : Int) ≤ (k : Int) := by omega
        have hl : (k : Int) < (us.length : Int) := by omega
        go_wp2_with fail
        go_quiet (fail)
        go_wp2
        go_roundw
        case rel => exact ⟨k + 1, by omega, by go_num, hid (below_drewN HR.out _)⟩
        case measure => simp [intOf]; omega
      · have HA6 := hid (HA5.out.below HR.out)
        have HBR := hid (HBF.out.trans (HR.out.mono HBF.out.size))
        clear HA5 HR HBF
        go_wp2_with fail
        refine wp_region_ext [(6, sl8 (encL zs)), (9, sl8 (encL zs))] ⟨sl8_stays _, sl8_stays _, trivial⟩ (by kernel_rfl) (by kernel_rfl) ?_
        refine wpG_calc 1 rfl rfl rfl (fun u => by go_simp; rfl) ?_
        simp only [Act.put, List.setIfInBounds_toArray, List.set_cons_zero, List.set_cons_succ]
        refine wpG_calc 2 rfl rfl rfl (fun u => by go_simp; rfl) ?_
        simp only [Act.put, List.setIfInBounds_toArray, List.set_cons_zero, List.set_cons_succ]
        refine wpG_calc 3 rfl rfl rfl (fun u => by go_simp; rfl) ?_
        simp only [Act.put, List.setIfInBounds_toArray, List.set_cons_zero, List.set_cons_succ]
        refine wpG_calc 4 rfl rfl rfl (fun u => by go_simp; rfl) ?_
        simp only [Act.put, List.setIfInBounds_toArray, List.set_cons_zero, List.set_cons_succ]
        refine wpG_calc 5 rfl rfl rfl (fun u => by go_simp; rfl) ?_
        simp only [Act.put, List.setIfInBounds_toArray, List.set_cons_zero, List.set_cons_succ]
        refine wpG_calc 6 rfl rfl rfl (fun u => by go_simp; rfl) ?_
        simp only [Act.put, List.setIfInBounds_toArray, List.set_cons_zero, List.set_cons_succ]
        refine wpG_rel 7 rfl rfl rfl ?_ ?_
        · intro u hu hh
          go_simp
          refine (encode_sl _ _ zs u (HA6.out.below hu) HZ.out (by omega)).mono ?_
          rintro e w5 ⟨v', rfl, ho⟩
          exact ⟨_, rfl, ho.sl, ho.below⟩
        intro vp ⟨up, _, hrp⟩
        obtain ⟨avp, cvp, rfl⟩ := hrp.val
        clear hrp
        simp only [Act.put, List.setIfInBounds_toArray, List.set_cons_zero, List.set_cons_succ]
        refine wpG_read 8 rfl rfl (.string (strOfNums (encL zs))) rfl ?_ ?_
        · intro u hu hh
          have hs := run_conv_str (P := Try.prog) Try.underlying24 Try.underlying5 Try.underlying9 (show Sl u _ _ 1 ((encL zs).map (.int .u8)) from hh 6 rfl)
          go_simp
        simp only [Act.put, List.setIfInBounds_toArray, List.set_cons_zero, List.set_cons_succ]
        refine wpG_calc 9 rfl rfl rfl (fun u => by go_simp; rfl) ?_
        simp only [Act.put, List.setIfInBounds_toArray, List.set_cons_zero, List.set_cons_succ]
        refine wpG_rel 10 rfl rfl rfl ?_ ?_
        · intro u hu hh
          go_simp
          refine (bytes_any _ _ zs u (HA6.out.below hu) HZ.out (by omega)).mono ?_
          rintro e w5 ⟨v', rfl, ho⟩
          exact ⟨_, rfl, ho.sl, ho.below⟩
        intro vq ⟨uq, _, hrq⟩
        obtain ⟨avq, cvq, rfl⟩ := hrq.val
        clear hrq
        simp only [Act.put, List.setIfInBounds_toArray, List.set_cons_zero, List.set_cons_succ]
        refine wpG_read 11 rfl rfl (.string (strOfNums (encL zs))) rfl ?_ ?_
        · intro u hu hh
          have hs := run_conv_str (P := Try.prog) Try.underlying24 Try.underlying5 Try.underlying9 (show Sl u _ _ 1 ((encL zs).map (.int .u8)) from hh 9 rfl)
          go_simp
        simp only [Act.put, List.setIfInBounds_toArray, List.set_cons_zero, List.set_cons_succ]
        refine wpG_calc 12 rfl rfl rfl (fun u => by go_simp; rfl) ?_
        simp only [Act.put, List.setIfInBounds_toArray, List.set_cons_zero, List.set_cons_succ]
        refine wpG_calc 13 rfl rfl rfl (fun u => by go_simp; rfl) ?_
        simp only [Act.put, List.setIfInBounds_toArray, List.set_cons_zero, List.set_cons_succ]
        refine wpG_calc 14 rfl rfl rfl (fun u => by go_simp; rfl) ?_
        simp only [Act.put, List.setIfInBounds_toArray, List.set_cons_zero, List.set_cons_succ]
        refine wpG_nil fun w' hb' hF => ?_
        clear hF
        go_wp2
        go_ret
        exact ⟨rfl, HBR.out.trans (hb'.mono HBR.out.size)⟩
  | none =>
    have HDS := hid hd; clear hd
    obtain ⟨us, hus⟩ : ∃ us : List Int, us = [] := ⟨[], rfl⟩
    go_wp2_with fail
    refine (decode_any b d bs w1 HB1.out HY.out (by omega)).mono ?_
    rintro e w2 hD2
    obtain ⟨rfl, hb2⟩ := decoded_none HDS.out hD2
    have HB2 := hid (HB1.out.below hb2); have HA2 := hid (HA1.out.below hb2)
    go_wp2_with fail
    refine (unitsOf_any b d bs w2 HB2.out HY.out (by omega)).mono ?_
    rintro e w3 hD3
    obtain ⟨rfl, hb3⟩ := decoded2_none HDS.out hD3
    obtain ⟨a2, ha2⟩ : ∃ a2 : Option Addr, a2 = none := ⟨_, rfl⟩
    obtain ⟨c2, hc2⟩ : ∃ c2 : Nat, c2 = 0 := ⟨_, rfl⟩
    have HS4 : Hid (Sl w3 (.slice a2 us.length c2) us.length 1 (us.map (.int .u16))) := hid (by subst hus ha2 hc2; exact ⟨rfl, _, _, rfl, Nat.le_refl _, .inl rfl⟩)
    have HS3 : Hid (Sl w3 (.slice a2 us.length c2) us.length 1 (us.map (.int .u16))) := HS4
    have HA5 := hid (HA2.out.below hb3)
    have HN : Hid ((Value.slice none 0 0) = .slice a2 us.length c2) := hid (by subst hus ha2 hc2; rfl)
    have hum : us.length ≤ 3000000 := by subst hus; simp
    clear HA1 HA2 HB1 HB2 hus ha2 hc2
    rw [HN.out]
    go_wp2_with fail
    refine (error_form w3).mono ?_
    rintro e w4 ⟨rfl, rfl⟩
    have hb13 : Below w.heap.size w w3 := hb1.trans ((hb2.trans (hb3.mono hb2.size)).mono hb1.size)
    have HBF := hid hb13; clear hb13 hb1 hb2 hb3
    go_wp2
    go_loopw [12] (fun i wr => ∃ k : Nat, k ≤ us.length ∧ i = .int .i64 k ∧ Hid (Below w3.heap.size w3 wr)) (fun i _ => us.length - (intOf i).toNat)
    case atStart => exact ⟨0, Nat.zero_le _, rfl, hid (Below.refl _ _)⟩
    case round =>
      obtain ⟨k, hk, rfl, HR⟩ := hrel
      by_cases hlt : k < us.length
      · obtain ⟨bx, ox, hax, hcx⟩ := (HS4.out.below HR.out).ints hlt
        obtain ⟨by_, oy, hay, hcy⟩ := (HS3.out.below HR.out).ints hlt
        subst hax
        cases hay
        have hi : (0 : Int) ≤ (k : Int) := by omega
        have hl : (k : Int) < (us.length : Int) := by omega
        go_wp2_with fail
        go_quiet (fail)
        go_wp2
        go_roundw
        case rel => exact ⟨k + 1, by omega, by go_num, hid (below_drewN HR.out _)⟩
        case measure => simp [intOf]; omega
      · have HA6 := hid (HA5.out.below HR.out)
        have HBR := hid (HBF.out.trans (HR.out.mono HBF.out.size))
        clear HA5 HR HBF
        go_wp2_with fail
        refine wp_region_ext [(6, sl8 (encL zs)), (9, sl8 (encL zs))] ⟨sl8_stays _, sl8_stays _, trivial⟩ (by kernel_rfl) (by kernel_rfl) ?_
        refine wpG_calc 1 rfl rfl rfl (fun u => by go_simp; rfl) ?_
        simp only [Act.put, List.setIfInBounds_toArray, List.set_cons_zero, List.set_cons_succ]
        refine wpG_calc 2 rfl rfl rfl (fun u => by go_simp; rfl) ?_
        simp only [Act.put, List.setIfInBounds_toArray, List.set_cons_zero, List.set_cons_succ]
        refine wpG_calc 3 rfl rfl rfl (fun u => by go_simp; rfl) ?_
        simp only [Act.put, List.setIfInBounds_toArray, List.set_cons_zero, List.set_cons_succ]
        refine wpG_calc 4 rfl rfl rfl (fun u => by go_simp; rfl) ?_
        simp only [Act.put, List.setIfInBounds_toArray, List.set_cons_zero, List.set_cons_succ]
        refine wpG_calc 5 rfl rfl rfl (fun u => by go_simp; rfl) ?_
        simp only [Act.put, List.setIfInBounds_toArray, List.set_cons_zero, List.set_cons_succ]
        refine wpG_calc 6 rfl rfl rfl (fun u => by go_simp; rfl) ?_
        simp only [Act.put, List.setIfInBounds_toArray, List.set_cons_zero, List.set_cons_succ]
        refine wpG_rel 7 rfl rfl rfl ?_ ?_
        · intro u hu hh
          go_simp
          refine (encode_sl _ _ zs u (HA6.out.below hu) HZ.out (by omega)).mono ?_
          rintro e w5 ⟨v', rfl, ho⟩
          exact ⟨_, rfl, ho.sl, ho.below⟩
        intro vp ⟨up, _, hrp⟩
        obtain ⟨avp, cvp, rfl⟩ := hrp.val
        clear hrp
        simp only [Act.put, List.setIfInBounds_toArray, List.set_cons_zero, List.set_cons_succ]
        refine wpG_read 8 rfl rfl (.string (strOfNums (encL zs))) rfl ?_ ?_
        · intro u hu hh
          have hs := run_conv_str (P := Try.prog) Try.underlying24 Try.underlying5 Try.underlying9 (show Sl u _ _ 1 ((encL zs).map (.int .u8)) from hh 6 rfl)
          go_simp
        simp only [Act.put, List.setIfInBounds_toArray, List.set_cons_zero, List.set_cons_succ]
        refine wpG_calc 9 rfl rfl rfl (fun u => by go_simp; rfl) ?_
        simp only [Act.put, List.setIfInBounds_toArray, List.set_cons_zero, List.set_cons_succ]
        refine wpG_rel 10 rfl rfl rfl ?_ ?_
        · intro u hu hh
          go_simp
          refine (bytes_any _ _ zs u (HA6.out.below hu) HZ.out (by omega)).mono ?_
          rintro e w5 ⟨v', rfl, ho⟩
          exact ⟨_, rfl, ho.sl, ho.below⟩
        intro vq ⟨uq, _, hrq⟩
        obtain ⟨avq, cvq, rfl⟩ := hrq.val
        clear hrq
        simp only [Act.put, List.setIfInBounds_toArray, List.set_cons_zero, List.set_cons_succ]
        refine wpG_read 11 rfl rfl (.string (strOfNums (encL zs))) rfl ?_ ?_
        · intro u hu hh
          have hs := run_conv_str (P := Try.prog) Try.underlying24 Try.underlying5 Try.underlying9 (show Sl u _ _ 1 ((encL zs).map (.int .u8)) from hh 9 rfl)
          go_simp
        simp only [Act.put, List.setIfInBounds_toArray, List.set_cons_zero, List.set_cons_succ]
        refine wpG_calc 12 rfl rfl rfl (fun u => by go_simp; rfl) ?_
        simp only [Act.put, List.setIfInBounds_toArray, List.set_cons_zero, List.set_cons_succ]
        refine wpG_calc 13 rfl rfl rfl (fun u => by go_simp; rfl) ?_
        simp only [Act.put, List.setIfInBounds_toArray, List.set_cons_zero, List.set_cons_succ]
        refine wpG_calc 14 rfl rfl rfl (fun u => by go_simp; rfl) ?_
        simp only [Act.put, List.setIfInBounds_toArray, List.set_cons_zero, List.set_cons_succ]
        refine wpG_nil fun w' hb' hF => ?_
        clear hF
        go_wp2
        go_ret
        exact ⟨rfl, HBR.out.trans (hb'.mono HBR.out.size)⟩

end Go.Proofs.Ytngegkhcgomjcaa.utfs
