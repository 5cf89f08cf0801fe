/- The law UtfJoined's walk. Condition: the two lists are short. -/
import Derived.Test.YtngegkhcgomjcaaUtf2
namespace Go.Proofs.Ytngegkhcgomjcaa.utfs
open Go.RowKit Go.Proofs.Ytngegkhcgomjcaa.lib Go.Proofs.Ytngegkhcgomjcaa.grow

theorem info35 : (Try.prog.info? 35).map (fun i => (i.zero, i.size, i.bytes)) = some (some (.int .u16 0), 1, 2) := by kernel_rfl

theorem encL_append (a b : List Int) : encL (a ++ b) = encL a ++ encL b := by simp [encL]

set_option maxHeartbeats 1000000 in
theorem joined_any (a b : Option Addr) (c d : Nat) (zs ys : List Int) (w : World) (ha : Sl w (.slice a zs.length c) zs.length 1 (zs.map (.int .u16))) (hb : Sl w (.slice b ys.length d) ys.length 1 (ys.map (.int .u16)))
    (hz : ∀ z ∈ zs, 0 ≤ z ∧ z ≤ 65535) (hy : ∀ z ∈ ys, 0 ≤ z ∧ z ≤ 65535) (hn : zs.length ≤ 2000000) (hm : ys.length ≤ 2000000) :
    Calls Try.prog 3 #[.slice a zs.length c, .slice b ys.length d] w fun e w' => e = .returned (.bool true) ∧ Below w.heap.size w w' := by
  have HA := hid ha; have HB := hid hb; have HZ := hid hz; have HY := hid hy; clear ha hb hz hy
  go_enter Try.func3, Try.ntmps3
  go_wp2_with fail
  refine (euro_any _).mono ?_
  rintro e w1 ⟨rfl, hb1⟩
  have HA1 := hid (HA.out.below hb1); have HB1 := hid (HB.out.below hb1)
  go_wp2_with (at_builtin; refine wpList_append_src w1 _ rfl _ _ 22 rfl 35 (.int .u16 0) 1 2 zs.length Try.underlying22 info35 rfl (by decide) _ _ _ (Out.made w1 35 1) rfl _ _ (HA1.out.below (ext_alloc _ _)) rfl ?_ ?_ ?_ ?_)
  case refine_1 => intro u hu; obtain ⟨_, _, rfl⟩ := List.mem_map.1 hu; rfl
  case refine_2 => omega
  case refine_3 => omega
  intro v2 w2 ho2 hg2
  have hb2 : Below w1.heap.size w1 w2 := ho2.below
  have HB2 := hid (HB1.out.below hb2)
  go_wp2_with (at_builtin; refine wpList_append_src w1 w2 rfl _ _ 22 rfl 35 (.int .u16 0) 1 2 ys.length Try.underlying22 info35 rfl (by decide) _ _ _ ho2 rfl _ _ HB2.out rfl ?_ ?_ ?_ ?_)
  case refine_1 => intro u hu; obtain ⟨_, _, rfl⟩ := List.mem_map.1 hu; rfl
  case refine_2 => omega
  case refine_3 => omega
  intro v3 w3 ho3 hg3
  have HBO : Hid (Sl w3 v3 (zs.length + ys.length) 1 ((zs ++ ys).map (.int .u16))) := hid (by have := ho3.sl; simpa using this)
  have HAA := hid (HA1.out.below ho3.below); have HBB := hid (HB1.out.below ho3.below)
  have HZY : Hid (∀ z ∈ zs ++ ys, 0 ≤ z ∧ z ≤ 65535) := by intro z hz; rcases List.mem_append.1 hz with h | h; exact HZ.out z h; exact HY.out z h
  obtain ⟨a3, c3, rfl⟩ := HBO.out.val
  have hB3 : Below w.heap.size w w3 := hb1.trans (ho3.below.mono hb1.size)
  clear ho2 hg2 ho3 hg3 HA1 HB1 HB2 hb2 hb1
  have hlt : ¬ 9223372036854775807 < (strOfNums (encL zs)).size + (strOfNums (encL ys)).size := by
    have h1 := encL_le zs; have h2 := encL_le ys
    rw [strOfNums_size, strOfNums_size]; omega
  have heq : strOfNums (encL (zs ++ ys)) = strOfNums (encL zs) ++ strOfNums (encL ys) := by
    rw [encL_append]; exact strOfNums_append _ _
  have hge := (encL_le zs).1
  have hle := (encL_le zs).2
  have HEQ := hid heq; clear heq
  go_wp2_with fail
  refine wp_region_ext [(3, sl8 (encL (zs ++ ys))), (6, sl8 (encL zs)), (9, sl8 (encL ys)), (16, sl8 (encL zs)), (24, sl8 (encL zs))] ⟨sl8_stays _, sl8_stays _, sl8_stays _, sl8_stays _, sl8_stays _, trivial⟩ (by kernel_rfl) (by kernel_rfl) ?_
  refine wpG_calc 1 rfl rfl rfl (fun u => by go_simp; rfl) ?_
  simp only [Act.put, List.setIfInBounds_toArray, List.set_cons_zero, List.set_cons_succ]
  refine wpG_calc 2 rfl rfl rfl (fun u => by go_simp; rfl) ?_
  simp only [Act.put, List.setIfInBounds_toArray, List.set_cons_zero, List.set_cons_succ]
  refine wpG_calc 3 rfl rfl rfl (fun u => by go_simp; rfl) ?_
  simp only [Act.put, List.setIfInBounds_toArray, List.set_cons_zero, List.set_cons_succ]
  refine wpG_rel 4 rfl rfl rfl ?_ ?_
  · intro u hu hh
    go_simp
    refine (encode_sl _ _ (zs ++ ys) u (HBO.out.below hu) HZY.out (by simp; omega)).mono ?_
    rintro e w5 ⟨v', rfl, ho⟩
    exact ⟨_, rfl, ho.sl, ho.below⟩
  intro vp ⟨up, _, hrp⟩
  obtain ⟨avp, cvp, rfl⟩ := hrp.val
  clear hrp
  simp only [Act.put, List.setIfInBounds_toArray, List.set_cons_zero, List.set_cons_succ]
  refine wpG_read 5 rfl rfl (.string (strOfNums (encL (zs ++ ys)))) rfl ?_ ?_
  · intro u hu hh
    have hs := run_conv_str (P := Try.prog) Try.underlying24 Try.underlying5 Try.underlying9 (show Sl u _ _ 1 ((encL (zs ++ ys)).map (.int .u8)) from hh 3 rfl)
    go_simp
  simp only [Act.put, List.setIfInBounds_toArray, List.set_cons_zero, List.set_cons_succ]
  refine wpG_calc 6 rfl rfl rfl (fun u => by go_simp; rfl) ?_
  simp only [Act.put, List.setIfInBounds_toArray, List.set_cons_zero, List.set_cons_succ]
  refine wpG_rel 7 rfl rfl rfl ?_ ?_
  · intro u hu hh
    go_simp
    refine (encode_sl _ _ zs u (HAA.out.below hu) HZ.out (by omega)).mono ?_
    rintro e w5 ⟨v', rfl, ho⟩
    exact ⟨_, rfl, ho.sl, ho.below⟩
  intro vq ⟨uq, _, hrq⟩
  obtain ⟨avq, cvq, rfl⟩ := hrq.val
  clear hrq
  simp only [Act.put, List.setIfInBounds_toArray, List.set_cons_zero, List.set_cons_succ]
  refine wpG_read 8 rfl rfl (.string (strOfNums (encL zs))) rfl ?_ ?_
  · intro u hu hh
    have hs := run_conv_str (P := Try.prog) Try.underlying24 Try.underlying5 Try.underlying9 (show Sl u _ _ 1 ((encL zs).map (.int .u8)) from hh 6 rfl)
    go_simp
  simp only [Act.put, List.setIfInBounds_toArray, List.set_cons_zero, List.set_cons_succ]
  refine wpG_calc 9 rfl rfl rfl (fun u => by go_simp; rfl) ?_
  simp only [Act.put, List.setIfInBounds_toArray, List.set_cons_zero, List.set_cons_succ]
  refine wpG_rel 10 rfl rfl rfl ?_ ?_
  · intro u hu hh
    go_simp
    refine (encode_sl _ _ ys u (HBB.out.below hu) HY.out (by omega)).mono ?_
    rintro e w5 ⟨v', rfl, ho⟩
    exact ⟨_, rfl, ho.sl, ho.below⟩
  intro vr ⟨ur, _, hrr⟩
  obtain ⟨avr, cvr, rfl⟩ := hrr.val
  clear hrr
  simp only [Act.put, List.setIfInBounds_toArray, List.set_cons_zero, List.set_cons_succ]
  refine wpG_read 11 rfl rfl (.string (strOfNums (encL ys))) rfl ?_ ?_
  · intro u hu hh
    have hs := run_conv_str (P := Try.prog) Try.underlying24 Try.underlying5 Try.underlying9 (show Sl u _ _ 1 ((encL ys).map (.int .u8)) from hh 9 rfl)
    go_simp
  simp only [Act.put, List.setIfInBounds_toArray, List.set_cons_zero, List.set_cons_succ]
  refine wpG_calc 12 rfl rfl rfl (fun u => by go_simp; rfl) ?_
  simp only [Act.put, List.setIfInBounds_toArray, List.set_cons_zero, List.set_cons_succ]
  refine wpG_calc 13 rfl rfl rfl (fun u => by rw [HEQ.out]; go_simp; rfl) ?_
  simp only [Act.put, List.setIfInBounds_toArray, List.set_cons_zero, List.set_cons_succ]
  refine wpG_calc 14 rfl rfl rfl (fun u => by go_simp; rfl) ?_
  simp only [Act.put, List.setIfInBounds_toArray, List.set_cons_zero, List.set_cons_succ]
  refine wpG_calc 15 rfl rfl rfl (fun u => by go_simp; rfl) ?_
  simp only [Act.put, List.setIfInBounds_toArray, List.set_cons_zero, List.set_cons_succ]
  refine wpG_calc 16 rfl rfl rfl (fun u => by go_simp; rfl) ?_
  simp only [Act.put, List.setIfInBounds_toArray, List.set_cons_zero, List.set_cons_succ]
  refine wpG_rel 17 rfl rfl rfl ?_ ?_
  · intro u hu hh
    go_simp
    refine (encode_sl _ _ zs u (HAA.out.below hu) HZ.out (by omega)).mono ?_
    rintro e w5 ⟨v', rfl, ho⟩
    exact ⟨_, rfl, ho.sl, ho.below⟩
  intro vs ⟨us, _, hrs⟩
  obtain ⟨avs, cvs, rfl⟩ := hrs.val
  clear hrs
  simp only [Act.put, List.setIfInBounds_toArray, List.set_cons_zero, List.set_cons_succ]
  refine wpG_calc 18 rfl rfl rfl (fun u => by go_simp; rfl) ?_
  simp only [Act.put, List.setIfInBounds_toArray, List.set_cons_zero, List.set_cons_succ]
  refine wpG_calc 19 rfl rfl rfl (fun u => by go_simp; rfl) ?_
  simp only [Act.put, List.setIfInBounds_toArray, List.set_cons_zero, List.set_cons_succ]
  refine wpG_calc 20 rfl rfl rfl (fun u => by go_simp; rfl) ?_
  simp only [Act.put, List.setIfInBounds_toArray, List.set_cons_zero, List.set_cons_succ]
  refine wpG_calc 21 rfl rfl rfl (fun u => by go_simp; rfl) ?_
  simp only [Act.put, List.setIfInBounds_toArray, List.set_cons_zero, List.set_cons_succ]
  refine wpG_calc 22 rfl rfl rfl (fun u => by go_simp; rfl) ?_
  simp only [Act.put, List.setIfInBounds_toArray, List.set_cons_zero, List.set_cons_succ]
  refine wpG_calc 23 rfl rfl rfl (fun u => by go_simp; rfl) ?_
  simp only [Act.put, List.setIfInBounds_toArray, List.set_cons_zero, List.set_cons_succ]
  refine wpG_calc 24 rfl rfl rfl (fun u => by go_simp; rfl) ?_
  simp only [Act.put, List.setIfInBounds_toArray, List.set_cons_zero, List.set_cons_succ]
  refine wpG_rel 25 rfl rfl rfl ?_ ?_
  · intro u hu hh
    go_simp
    refine (encode_sl _ _ zs u (HAA.out.below hu) HZ.out (by omega)).mono ?_
    rintro e w5 ⟨v', rfl, ho⟩
    exact ⟨_, rfl, ho.sl, ho.below⟩
  intro vt ⟨ut, _, hrt⟩
  obtain ⟨avt, cvt, rfl⟩ := hrt.val
  clear hrt
  simp only [Act.put, List.setIfInBounds_toArray, List.set_cons_zero, List.set_cons_succ]
  refine wpG_calc 26 rfl rfl rfl (fun u => by go_simp; rfl) ?_
  simp only [Act.put, List.setIfInBounds_toArray, List.set_cons_zero, List.set_cons_succ]
  refine wpG_calc 27 rfl rfl rfl (fun u => by go_simp; rfl) ?_
  simp only [Act.put, List.setIfInBounds_toArray, List.set_cons_zero, List.set_cons_succ]
  refine wpG_calc 28 rfl rfl rfl (fun u => by go_simp; rfl) ?_
  simp only [Act.put, List.setIfInBounds_toArray, List.set_cons_zero, List.set_cons_succ]
  refine wpG_calc 29 rfl rfl rfl (fun u => by go_simp; rw [IntWalk.i64_in (3 * (zs.length : Int)) (by omega)]) ?_
  simp only [Act.put, List.setIfInBounds_toArray, List.set_cons_zero, List.set_cons_succ]
  refine wpG_calc 30 rfl rfl rfl (fun u => by go_simp; rw [decide_eq_true (show ((encL zs).length : Int) ≤ 3 * (zs.length : Int) from by omega)]) ?_
  simp only [Act.put, List.setIfInBounds_toArray, List.set_cons_zero, List.set_cons_succ]
  refine wpG_calc 31 rfl rfl rfl (fun u => by go_simp; rfl) ?_
  simp only [Act.put, List.setIfInBounds_toArray, List.set_cons_zero, List.set_cons_succ]
  refine wpG_calc 32 rfl rfl rfl (fun u => by go_simp; rfl) ?_
  simp only [Act.put, List.setIfInBounds_toArray, List.set_cons_zero, List.set_cons_succ]
  refine wpG_nil fun w' hb' hF => ?_
  clear hF
  go_wp2
  go_ret
  exact ⟨rfl, hB3.trans (hb'.mono hB3.size)⟩

end Go.Proofs.Ytngegkhcgomjcaa.utfs
