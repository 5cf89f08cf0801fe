/- The law UtfBack's walk, and the plain laws behind it. Condition: the lists are short. -/
import Derived.Test.YtngegkhcgomjcaaUtf8
namespace Go.Proofs.Ytngegkhcgomjcaa.utfs
open Go.RowKit Go.Proofs.Ytngegkhcgomjcaa.lib Go.Proofs.Ytngegkhcgomjcaa.grow Go.Proofs.Ytngegkhcgomjcaa.errs

theorem e1_pos {u : Int} (h : 0 ≤ u ∧ u ≤ 65535) : ∀ x ∈ e1 u, 0 < x := by
  unfold e1
  intro x hx
  split at hx
  · simp at hx; omega
  · split at hx <;> simp at hx <;> omega
theorem encL_pos {zs : List Int} (h : ∀ z ∈ zs, 0 ≤ z ∧ z ≤ 65535) : ∀ x ∈ encL zs, 0 < x := by
  intro x hx
  obtain ⟨u, hu, hx⟩ := List.mem_flatMap.1 hx
  exact e1_pos (h u hu) x hx
theorem encL_range {zs : List Int} (h : ∀ z ∈ zs, 0 ≤ z ∧ z ≤ 65535) : ∀ x ∈ encL zs, 0 ≤ x ∧ x ≤ 255 := by
  intro x hx
  obtain ⟨u, hu, hx⟩ := List.mem_flatMap.1 hx
  exact e1_range (h u hu) x hx
theorem unitOf_e1 {u : Int} (h : 0 ≤ u ∧ u ≤ 65535) (r : List Int) : unitOf (e1 u ++ r) = (u, (e1 u).length) := by
  by_cases h1 : 0 < u ∧ u < 128
  · rw [e1_one h1.1 h1.2]
    have e := ref_one (b0 := u) (r := r) h.1 (by omega)
    rw [e1_one h1.1 h1.2, if_pos rfl] at e
    exact e
  · by_cases h2 : u < 2048
    · have e2 := e1_two (z := u) (by omega) h2
      have e := ref_two (b0 := 192 + u / 64) (b1 := 128 + u % 64) (r := r) (by omega) (by omega)
      rw [show (192 + u / 64) % 32 * 64 + (128 + u % 64) % 64 = u by omega, e2, if_pos rfl] at e
      rw [e2]; exact e
    · have e3 := e1_three (z := u) (by omega)
      have e := ref_three (b0 := 224 + u / 4096) (b1 := 128 + u / 64 % 64) (b2 := 128 + u % 64) (r := r) (by omega) (by omega)
      rw [show (224 + u / 4096) % 16 * 4096 + (128 + u / 64 % 64) % 64 * 64 + (128 + u % 64) % 64 = u by omega, e3, if_pos rfl] at e
      rw [e3]; exact e
theorem decL_encL : ∀ (zs : List Int), (∀ z ∈ zs, 0 ≤ z ∧ z ≤ 65535) → decL (encL zs) = some zs
  | [], _ => rfl
  | z :: zs, h => by
    have hz := h z (List.mem_cons_self ..)
    have hc : encL (z :: zs) = e1 z ++ encL zs := by simp [encL]
    have hl := (e1_len z).1
    have hne : encL (z :: zs) ≠ [] := by rw [hc]; intro e; have := congrArg List.length e; rw [List.length_append, List.length_nil] at this; omega
    have hu := unitOf_e1 hz (encL zs)
    rw [decL_cons hne, hc, hu]
    simp only
    rw [if_neg (by omega), List.drop_left, decL_encL zs (fun x hx => h x (List.mem_cons_of_mem _ hx))]
    rfl
theorem unitOf_spec {bs : List Int} (hb : ∀ z ∈ bs, 0 ≤ z ∧ z ≤ 255) (h : (unitOf bs).2 ≠ 0) : e1 (unitOf bs).1 = bs.take (unitOf bs).2 ∧ 0 ≤ (unitOf bs).1 ∧ (unitOf bs).1 ≤ 65535 := by
  have key : ∀ i, 0 ≤ bs.getD i 0 ∧ bs.getD i 0 ≤ 255 := fun i => by
    by_cases hi : i < bs.length
    · have := hb _ (List.getElem_mem hi); simpa [List.getD, List.getElem?_eq_getElem hi] using this
    · simp [List.getD, List.getElem?_eq_none (Nat.le_of_not_lt hi)]
  have k0 := key 0; have k1 := key 1; have k2 := key 2
  have hr : 0 ≤ uV bs ∧ uV bs ≤ 65535 := by
    unfold uV
    split
    · omega
    · split <;> omega
  revert h
  unfold unitOf
  split
  · simp
  · split
    · intro _; exact ⟨by assumption, hr⟩
    · simp
theorem decF_back : ∀ (f : Nat) (bs us : List Int), bs.length ≤ f → (∀ z ∈ bs, 0 ≤ z ∧ z ≤ 255) → decF f bs = some us → encL us = bs ∧ ∀ z ∈ us, 0 ≤ z ∧ z ≤ 65535
  | 0, bs, us, hf, _, h => by
    have : bs = [] := List.eq_nil_of_length_eq_zero (by omega)
    subst this
    simp [decF] at h; subst h; simp [encL]
  | f + 1, bs, us, hf, hb, h => by
    simp only [decF] at h
    split at h
    · rename_i he; subst he; simp at h; subst h; simp [encL]
    · split at h
      · cases h
      · rename_i hn
        obtain ⟨r, hr, rfl⟩ := Option.map_eq_some_iff.1 h
        obtain ⟨h1, h2⟩ := unitOf_spec hb hn
        obtain ⟨i1, i2⟩ := decF_back f _ r (by rw [List.length_drop]; omega) (fun z hz => hb z (List.mem_of_mem_drop hz)) hr
        refine ⟨?_, fun z hz => ?_⟩
        · have : encL ((unitOf bs).1 :: r) = e1 (unitOf bs).1 ++ encL r := by simp [encL]
          rw [this, h1, i1, List.take_append_drop]
        · rcases List.mem_cons.1 hz with rfl | hz
          · exact h2
          · exact i2 z hz
theorem decL_back {bs us : List Int} (hb : ∀ z ∈ bs, 0 ≤ z ∧ z ≤ 255) (h : decL bs = some us) : encL us = bs ∧ ∀ z ∈ us, 0 ≤ z ∧ z ≤ 65535 := decF_back _ _ _ (Nat.le_refl _) hb h

set_option maxRecDepth 100000 in
set_option maxHeartbeats 2000000 in
theorem back_any (a b : Option Addr) (c d : Nat) (zs bs : List Int) (w : World) (ha : Sl w (.slice a zs.length c) zs.length 1 (zs.map (.int .u16))) (hb : Sl w (.slice b bs.length d) bs.length 1 (bs.map (.int .u8)))
    (hz : ∀ z ∈ zs, 0 ≤ z ∧ z ≤ 65535) (hy : ∀ z ∈ bs, 0 ≤ z ∧ z ≤ 255) (hn : zs.length ≤ 2000000) (hm : bs.length ≤ 2000000) :
    Calls Try.prog 5 #[.slice a zs.length c, .slice b bs.length d] w fun e w' => e = .returned (.bool true) ∧ Below w.heap.size w w' := by
  have HA := hid ha; have HB := hid hb; have HZ := hid hz; have HY := hid hy; clear ha hb hz hy
  have HPOS := hid (encL_pos HZ.out); have HRG := hid (encL_range HZ.out); have HDE := hid (decL_encL zs HZ.out)
  have hel := (encL_le zs).2
  go_enter Try.func5, Try.ntmps5
  go_wp2_with fail
  refine (euro_any _).mono ?_
  rintro e w1 ⟨rfl, hb1⟩
  have HA1 := hid (HA.out.below hb1); have HB1 := hid (HB.out.below hb1)
  clear HA HB
  go_wp2_with fail
  refine (encode_any a c zs w1 HA1.out HZ.out (by omega)).mono ?_
  rintro e w2 ⟨v2, rfl, ho2⟩
  have hb2 := hb1.trans (ho2.below.mono hb1.size)
  have HX := hid ho2.sl
  have HA2 := hid (HA1.out.below ho2.below); have HB2 := hid (HB1.out.below ho2.below)
  obtain ⟨a2, c2, rfl⟩ := HX.out.val
  have HBW := hid hb2
  clear HA1 HB1 ho2 hb1 hb2
  go_wp2
  go_loopw [7] (fun i wr => ∃ k : Nat, k ≤ (encL zs).length ∧ i = .int .i64 k ∧ Hid (Below w2.heap.size w2 wr)) (fun i _ => (encL zs).length - (intOf i).toNat)
  case atStart => exact ⟨0, Nat.zero_le _, rfl, hid (Below.refl _ _)⟩
  case round =>
    obtain ⟨k, hk, rfl, HR⟩ := hrel
    by_cases hlt : k < (encL zs).length
    · obtain ⟨bx, ox, hax, hcx⟩ := (HX.out.below HR.out).ints hlt
      subst hax
      have hpos := HPOS.out (encL zs)[k] (List.getElem_mem hlt)
      have hne : ((encL zs)[k] == 0) = false := by simp; omega
      clear hpos
      go_wp2
      go_roundw
      case rel => exact ⟨k + 1, by omega, by go_num, HR⟩
      case measure => simp [intOf]; omega
    · have HX3 := hid (HX.out.below HR.out); have HA3 := hid (HA2.out.below HR.out); have HB3 := hid (HB2.out.below HR.out)
      have HBW3 := hid (HBW.out.trans (HR.out.mono HBW.out.size))
      clear HX HA2 HB2 HBW HR
      go_wp2_with fail
      refine (decode_any a2 c2 (encL zs) wr HX3.out HRG.out (by omega)).mono ?_
      rintro e w3 hD3
      obtain ⟨v3, rfl, ho3⟩ := decoded_some HDE.out hD3
      have HU3 := hid ho3.sl
      obtain ⟨a3, c3, rfl⟩ := HU3.out.val
      have HBW4 := hid (HBW3.out.trans (ho3.below.mono HBW3.out.size))
      have HA4 := hid (HA3.out.below ho3.below); have HB4 := hid (HB3.out.below ho3.below)
      clear HX3 HA3 HB3 HBW3 ho3 hD3
      go_wp2
      go_loopw [10] (fun i wq => ∃ k : Nat, k ≤ zs.length ∧ i = .int .i64 k ∧ Hid (Below w3.heap.size w3 wq)) (fun i _ => zs.length - (intOf i).toNat)
      case atStart => exact ⟨0, Nat.zero_le _, rfl, hid (Below.refl _ _)⟩
      case round =>
        obtain ⟨q, hq, rfl, HR⟩ := hrel
        by_cases hlq : q < zs.length
        · obtain ⟨bx, ox, hax, hcx⟩ := (HU3.out.below HR.out).ints hlq
          obtain ⟨by_, oy, hay, hcy⟩ := (HA4.out.below HR.out).ints hlq
          subst hax
          subst hay
          have hi : (0 : Int) ≤ (q : Int) := by omega
          have hl : (q : Int) < (zs.length : Int) := by omega
          go_wp2_with fail
          go_quiet (fail)
          go_wp2
          go_roundw
          case rel => exact ⟨q + 1, by omega, by go_num, hid (below_drewN HR.out _)⟩
          case measure => simp [intOf]; omega
        · have HB5 := hid (HB4.out.below HR.out)
          have HBW5 := hid (HBW4.out.trans (HR.out.mono HBW4.out.size))
          clear HB4 HBW4 HR
          cases hd : decL bs with
          | some vs =>
            have hvl := decL_le hd
            have HDB := hid (decL_back HY.out hd)
            have HVR := hid HDB.out.2
            have HEB : Hid (strOfNums (encL vs) = strOfNums bs) := hid (by rw [HDB.out.1])
            have HDS := hid hd; clear hd
            go_wp2_with fail
            refine (decode_any b d bs _ HB5.out HY.out (by omega)).mono ?_
            rintro e w6 hD6
            obtain ⟨v6, rfl, ho6⟩ := decoded_some HDS.out hD6
            have HV7 := hid ho6.sl
            obtain ⟨a6, c6, rfl⟩ := HV7.out.val
            have HB7 := hid (HB5.out.below ho6.below)
            have HBW7 := hid (HBW5.out.trans (ho6.below.mono HBW5.out.size))
            clear ho6 hD6 HB5 HBW5
            go_wp2_with fail
            refine wp_region_ext [(15, sl8 (encL vs))] ⟨sl8_stays _, trivial⟩ (by kernel_rfl) (by kernel_rfl) ?_
            refine wpG_calc 1 rfl rfl rfl (fun u => by go_simp; rfl) ?_
            simp only [Act.put, List.setIfInBounds_toArray, List.set_cons_zero, List.set_cons_succ]
            refine wpG_calc 2 rfl rfl rfl (fun u => by go_simp; rfl) ?_
            simp only [Act.put, List.setIfInBounds_toArray, List.set_cons_zero, List.set_cons_succ]
            refine wpG_calc 3 rfl rfl rfl (fun u => by go_simp; rfl) ?_
            simp only [Act.put, List.setIfInBounds_toArray, List.set_cons_zero, List.set_cons_succ]
            refine wpG_calc 4 rfl rfl rfl (fun u => by go_simp; rfl) ?_
            simp only [Act.put, List.setIfInBounds_toArray, List.set_cons_zero, List.set_cons_succ]
            refine wpG_calc 5 rfl rfl rfl (fun u => by have he := run_eql_iface_nil_left (P := Try.prog) u 33 (.int .i64 1) Try.underlying28; go_simp; rfl) ?_
            simp only [Act.put, List.setIfInBounds_toArray, List.set_cons_zero, List.set_cons_succ]
            refine wpG_calc 6 rfl rfl rfl (fun u => by go_simp; rfl) ?_
            simp only [Act.put, List.setIfInBounds_toArray, List.set_cons_zero, List.set_cons_succ]
            refine wpG_skip 7 rfl rfl ?_
            simp only [Act.put, List.setIfInBounds_toArray, List.set_cons_zero, List.set_cons_succ]
            refine wpG_skip 8 rfl rfl ?_
            simp only [Act.put, List.setIfInBounds_toArray, List.set_cons_zero, List.set_cons_succ]
            refine wpG_skip 9 rfl rfl ?_
            simp only [Act.put, List.setIfInBounds_toArray, List.set_cons_zero, List.set_cons_succ]
            refine wpG_calc 10 rfl rfl rfl (fun u => by go_simp; rfl) ?_
            simp only [Act.put, List.setIfInBounds_toArray, List.set_cons_zero, List.set_cons_succ]
            refine wpG_calc 11 rfl rfl rfl (fun u => by go_simp; rfl) ?_
            simp only [Act.put, List.setIfInBounds_toArray, List.set_cons_zero, List.set_cons_succ]
            refine wpG_calc 12 rfl rfl rfl (fun u => by go_simp; rfl) ?_
            simp only [Act.put, List.setIfInBounds_toArray, List.set_cons_zero, List.set_cons_succ]
            refine wpG_calc 13 rfl rfl rfl (fun u => by go_simp; rfl) ?_
            simp only [Act.put, List.setIfInBounds_toArray, List.set_cons_zero, List.set_cons_succ]
            refine wpG_calc 14 rfl rfl rfl (fun u => by go_simp; rfl) ?_
            simp only [Act.put, List.setIfInBounds_toArray, List.set_cons_zero, List.set_cons_succ]
            refine wpG_calc 15 rfl rfl rfl (fun u => by go_simp; rfl) ?_
            simp only [Act.put, List.setIfInBounds_toArray, List.set_cons_zero, List.set_cons_succ]
            refine wpG_rel 16 rfl rfl rfl ?_ ?_
            · intro u hu hh
              go_simp
              refine (encode_sl _ _ vs u (HV7.out.below hu) HVR.out (by omega)).mono ?_
              rintro e w5 ⟨v', rfl, ho⟩
              exact ⟨_, rfl, ho.sl, ho.below⟩
            intro vp ⟨up, _, hrp⟩
            obtain ⟨avp, cvp, rfl⟩ := hrp.val
            clear hrp
            simp only [Act.put, List.setIfInBounds_toArray, List.set_cons_zero, List.set_cons_succ]
            refine wpG_read 17 rfl rfl (.string (strOfNums (encL vs))) rfl ?_ ?_
            · intro u hu hh
              have hs := run_conv_str (P := Try.prog) Try.underlying24 Try.underlying5 Try.underlying9 (show Sl u _ _ 1 ((encL vs).map (.int .u8)) from hh 15 rfl)
              go_simp
            simp only [Act.put, List.setIfInBounds_toArray, List.set_cons_zero, List.set_cons_succ]
            refine wpG_calc 18 rfl rfl rfl (fun u => by go_simp; rfl) ?_
            simp only [Act.put, List.setIfInBounds_toArray, List.set_cons_zero, List.set_cons_succ]
            refine wpG_read 19 rfl rfl (.string (strOfNums (bs))) rfl ?_ ?_
            · intro u hu hh
              have hs := run_conv_str (P := Try.prog) Try.underlying24 Try.underlying5 Try.underlying9 (show Sl u _ _ 1 ((bs).map (.int .u8)) from HB7.out.below hu)
              go_simp
            simp only [Act.put, List.setIfInBounds_toArray, List.set_cons_zero, List.set_cons_succ]
            refine wpG_calc 20 rfl rfl rfl (fun u => by rw [HEB.out]; go_simp; rfl) ?_
            simp only [Act.put, List.setIfInBounds_toArray, List.set_cons_zero, List.set_cons_succ]
            refine wpG_calc 21 rfl rfl rfl (fun u => by go_simp; rfl) ?_
            simp only [Act.put, List.setIfInBounds_toArray, List.set_cons_zero, List.set_cons_succ]
            refine wpG_calc 22 rfl rfl rfl (fun u => by go_simp; rfl) ?_
            simp only [Act.put, List.setIfInBounds_toArray, List.set_cons_zero, List.set_cons_succ]
            refine wpG_calc 23 rfl rfl rfl (fun u => by go_simp; rfl) ?_
            simp only [Act.put, List.setIfInBounds_toArray, List.set_cons_zero, List.set_cons_succ]
            refine wpG_calc 24 rfl rfl rfl (fun u => by go_simp; rfl) ?_
            simp only [Act.put, List.setIfInBounds_toArray, List.set_cons_zero, List.set_cons_succ]
            refine wpG_nil fun w' hb' hF => ?_
            clear hF
            go_wp2
            go_ret
            exact ⟨rfl, HBW7.out.trans (hb'.mono HBW7.out.size)⟩
          | none =>
            have HDS := hid hd; clear hd
            go_wp2_with fail
            refine (decode_any b d bs _ HB5.out HY.out (by omega)).mono ?_
            rintro e w6 hD6
            obtain ⟨rfl, hb6⟩ := decoded_none HDS.out hD6
            have HBW7 := hid (HBW5.out.trans (hb6.mono HBW5.out.size))
            clear hb6 HB5 HBW5
            go_wp2_with fail
            obtain ⟨i, hi, hc⟩ := errno_info
            have he := fun w : World => run_eql_iface_int (P := Try.prog) w 1 1 Try.underlying28 Try.underlying33 hi hc
            clear hi hc
            refine wp_region_ext [] trivial (by kernel_rfl) (by kernel_rfl) ?_
            refine wpG_calc 1 rfl rfl rfl (fun u => by go_simp; rfl) ?_
            simp only [Act.put, List.setIfInBounds_toArray, List.set_cons_zero, List.set_cons_succ]
            refine wpG_calc 2 rfl rfl rfl (fun u => by go_simp; rfl) ?_
            simp only [Act.put, List.setIfInBounds_toArray, List.set_cons_zero, List.set_cons_succ]
            refine wpG_calc 3 rfl rfl rfl (fun u => by go_simp; rfl) ?_
            simp only [Act.put, List.setIfInBounds_toArray, List.set_cons_zero, List.set_cons_succ]
            refine wpG_calc 4 rfl rfl rfl (fun u => by go_simp; rfl) ?_
            simp only [Act.put, List.setIfInBounds_toArray, List.set_cons_zero, List.set_cons_succ]
            refine wpG_calc 5 rfl rfl rfl (fun u => by go_simp; rfl) ?_
            simp only [Act.put, List.setIfInBounds_toArray, List.set_cons_zero, List.set_cons_succ]
            refine wpG_calc 6 rfl rfl rfl (fun u => by go_simp; rfl) ?_
            simp only [Act.put, List.setIfInBounds_toArray, List.set_cons_zero, List.set_cons_succ]
            refine wpG_calc 7 rfl rfl rfl (fun u => by go_simp; rfl) ?_
            simp only [Act.put, List.setIfInBounds_toArray, List.set_cons_zero, List.set_cons_succ]
            refine wpG_calc 8 rfl rfl rfl (fun u => by go_simp; rfl) ?_
            simp only [Act.put, List.setIfInBounds_toArray, List.set_cons_zero, List.set_cons_succ]
            refine wpG_calc 9 rfl rfl rfl (fun u => by go_simp; rfl) ?_
            simp only [Act.put, List.setIfInBounds_toArray, List.set_cons_zero, List.set_cons_succ]
            refine wpG_calc 10 rfl rfl rfl (fun u => by go_simp; rfl) ?_
            simp only [Act.put, List.setIfInBounds_toArray, List.set_cons_zero, List.set_cons_succ]
            refine wpG_calc 11 rfl rfl rfl (fun u => by go_simp; rfl) ?_
            simp only [Act.put, List.setIfInBounds_toArray, List.set_cons_zero, List.set_cons_succ]
            refine wpG_skip 12 rfl rfl ?_
            simp only [Act.put, List.setIfInBounds_toArray, List.set_cons_zero, List.set_cons_succ]
            refine wpG_skip 13 rfl rfl ?_
            simp only [Act.put, List.setIfInBounds_toArray, List.set_cons_zero, List.set_cons_succ]
            refine wpG_skip 14 rfl rfl ?_
            simp only [Act.put, List.setIfInBounds_toArray, List.set_cons_zero, List.set_cons_succ]
            refine wpG_skip 15 rfl rfl ?_
            simp only [Act.put, List.setIfInBounds_toArray, List.set_cons_zero, List.set_cons_succ]
            refine wpG_skip 16 rfl rfl ?_
            simp only [Act.put, List.setIfInBounds_toArray, List.set_cons_zero, List.set_cons_succ]
            refine wpG_skip 17 rfl rfl ?_
            simp only [Act.put, List.setIfInBounds_toArray, List.set_cons_zero, List.set_cons_succ]
            refine wpG_skip 18 rfl rfl ?_
            simp only [Act.put, List.setIfInBounds_toArray, List.set_cons_zero, List.set_cons_succ]
            refine wpG_skip 19 rfl rfl ?_
            simp only [Act.put, List.setIfInBounds_toArray, List.set_cons_zero, List.set_cons_succ]
            refine wpG_skip 20 rfl rfl ?_
            simp only [Act.put, List.setIfInBounds_toArray, List.set_cons_zero, List.set_cons_succ]
            refine wpG_skip 21 rfl rfl ?_
            simp only [Act.put, List.setIfInBounds_toArray, List.set_cons_zero, List.set_cons_succ]
            refine wpG_calc 22 rfl rfl rfl (fun u => by go_simp; rfl) ?_
            simp only [Act.put, List.setIfInBounds_toArray, List.set_cons_zero, List.set_cons_succ]
            refine wpG_calc 23 rfl rfl rfl (fun u => by go_simp; rfl) ?_
            simp only [Act.put, List.setIfInBounds_toArray, List.set_cons_zero, List.set_cons_succ]
            refine wpG_calc 24 rfl rfl rfl (fun u => by go_simp; rfl) ?_
            simp only [Act.put, List.setIfInBounds_toArray, List.set_cons_zero, List.set_cons_succ]
            refine wpG_nil fun w' hb' hF => ?_
            clear hF he
            go_wp2
            go_ret
            exact ⟨rfl, HBW7.out.trans (hb'.mono HBW7.out.size)⟩

end Go.Proofs.Ytngegkhcgomjcaa.utfs
