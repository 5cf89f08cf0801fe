/- The law MtypeBack: its walk. Condition: the text is not long. -/
import Derived.Test.YtdnnnjedobknhaaDoorMtype7
namespace Go.Proofs.YtdnnnjedobknhaaDoor.mtypes
open Go.RowKit Go.Proofs.YtdnnnjedobknhaaDoor.lib Go.Proofs.YtdnnnjedobknhaaDoor.errs Go.Proofs.YtdnnnjedobknhaaDoor.names Go.Proofs.YtdnnnjedobknhaaDoor.texts Go.Proofs.YtdnnnjedobknhaaDoor.descs

theorem told_no {w w' : World} {r : Int × List UInt8} {e : Ending} {z : Int} {l : List UInt8} (h : Told w r e w') (hr : r = (z, l)) (hz : z ≠ 0) : e = .returned (.tuple #[.string (bs l), .iface 34 (.int .i64 z)]) ∧ Below w.heap.size w w' := by
  subst hr
  obtain ⟨h1, h2⟩ := h
  unfold errVal at h1
  rw [if_neg hz] at h1
  exact ⟨h1, h2⟩
theorem told_yes {w w' : World} {r : Int × List UInt8} {e : Ending} {l : List UInt8} (h : Told w r e w') (hr : r = (0, l)) : e = .returned (.tuple #[.string (bs l), .nilIface]) ∧ Below w.heap.size w w' := by
  subst hr; exact h
theorem change_none {M t : List UInt8} {n : Int} (h : methodOf M = none) : changeOf M n t = (1, []) := by unfold changeOf; rw [h]
theorem put_none {M t : List UInt8} {n : Int} (h : methodOf M = none) : putOf M n t = (1, []) := by unfold putOf; rw [h]

set_option maxRecDepth 100000 in
set_option maxHeartbeats 1000000 in
theorem back_none (M t : ByteArray) (n : Int) (w : World) (hs : M.size ≤ 1048576) (ht : t.size ≤ 9223372036854775807) (hm : methodOf M.data.toList = none) :
    Calls Tryd.prog 9 #[.string M, .int .i64 n, .string t] w fun e w' => e = .returned (.bool true) ∧ Below w.heap.size w w' := by
  have hs3 : M.size ≤ 10000000 := by omega
  have HM := hid hm
  have HP := hid (put_none (t := t.data.toList) (n := n) hm)
  have HPZ : Hid ((1 : Int) ≠ 0) := hid (by decide)
  have HC := hid (change_none (t := t.data.toList) (n := n) hm)
  have HCZ : Hid ((1 : Int) ≠ 0) := hid (by decide)
  clear hm
  go_enter Tryd.func9, Tryd.ntmps9
  go_wp2_with fail
  refine (dropped_any w).mono ?_
  rintro e w1 ⟨rfl, hb1⟩
  go_wp2_with fail
  refine (put_any M n t _ hs3 ht).mono ?_
  intro e w2 h2
  obtain ⟨rfl, hb2⟩ := told_no h2 HP.out HPZ.out
  clear h2
  have hb2 := hb1.trans (hb2.mono hb1.size)
  go_wp2_with fail
  refine (methodOf_any M _ hs3).mono ?_
  intro e w4 h4
  obtain ⟨rfl, hb4⟩ := methodSaid_none HM.out h4
  clear h4
  have hb4 := hb2.trans (hb4.mono hb2.size)
  go_wp2_with fail
  refine (change_any M n t _ hs3 ht).mono ?_
  intro e w5 h5
  obtain ⟨rfl, hb5⟩ := told_no h5 HC.out HCZ.out
  clear h5
  go_wp2_with fail
  go_ret
  exact ⟨rfl, hb4.trans (hb5.mono hb4.size)⟩

set_option maxRecDepth 100000 in
set_option maxHeartbeats 1000000 in
theorem back_nn (M t : ByteArray) (n : Int) (w : World) (hs : M.size ≤ 1048576) (ht : t.size ≤ 9223372036854775807) (z : Int) (A : List UInt8) (hp : putOf M.data.toList n t.data.toList = (z, A)) (hz : z ≠ 0) (ts : List (List UInt8)) (g : List UInt8) (hm : methodOf M.data.toList = some (ts, g)) (y : Int) (C : List UInt8) (hc : changeOf M.data.toList n t.data.toList = (y, C)) (hy : y ≠ 0) :
    Calls Tryd.prog 9 #[.string M, .int .i64 n, .string t] w fun e w' => e = .returned (.bool true) ∧ Below w.heap.size w w' := by
  have hs3 : M.size ≤ 10000000 := by omega
  have HP := hid hp; have HPZ := hid hz
  clear hp hz
  have HM := hid hm; have HC := hid hc; have HCZ := hid hy
  clear hm hc hy
  go_enter Tryd.func9, Tryd.ntmps9
  go_wp2_with fail
  refine (dropped_any w).mono ?_
  rintro e w1 ⟨rfl, hb1⟩
  go_wp2_with fail
  refine (put_any M n t _ hs3 ht).mono ?_
  intro e w2 h2
  obtain ⟨rfl, hb2⟩ := told_no h2 HP.out HPZ.out
  clear h2
  have hb2 := hb1.trans (hb2.mono hb1.size)
  go_wp2_with fail
  refine (methodOf_any M _ hs3).mono ?_
  intro e w4 h4
  obtain ⟨v4, rfl, ho4⟩ := methodSaid_some HM.out h4
  clear h4
  have HS4 := hid ho4.sl
  have hb4 := hb2.trans (ho4.below.mono hb2.size)
  obtain ⟨a4, c4, rfl⟩ := ho4.sl.val
  clear ho4
  go_wp2_with fail
  refine (change_any M n t _ hs3 ht).mono ?_
  intro e w5 h5
  obtain ⟨rfl, hb5⟩ := told_no h5 HC.out HCZ.out
  clear h5
  go_wp2_with fail
  go_ret
  exact ⟨rfl, hb4.trans (hb5.mono hb4.size)⟩

set_option maxRecDepth 100000 in
set_option maxHeartbeats 1000000 in
theorem back_yn (M t : ByteArray) (n : Int) (w : World) (hs : M.size ≤ 1048576) (ht : t.size ≤ 9223372036854775807) (A : List UInt8) (hp : putOf M.data.toList n t.data.toList = (0, A)) (ts : List (List UInt8)) (g : List UInt8) (hm : methodOf M.data.toList = some (ts, g)) (y : Int) (C : List UInt8) (hc : changeOf M.data.toList n t.data.toList = (y, C)) (hy : y ≠ 0) :
    Calls Tryd.prog 9 #[.string M, .int .i64 n, .string t] w fun e w' => e = .returned (.bool true) ∧ Below w.heap.size w w' := by
  have hs3 : M.size ≤ 10000000 := by omega
  obtain ⟨hdr, hal⟩ := put_drop hp
  have HP := hid hp
  have HAS : Hid ((bs A).size ≤ 10000000) := hid (by rw [bs_size]; omega)
  have HDR : Hid (dropOf (bs A).data.toList n = (0, M.data.toList)) := hid hdr
  clear hp hdr hal
  have HM := hid hm; have HC := hid hc; have HCZ := hid hy
  clear hm hc hy
  go_enter Tryd.func9, Tryd.ntmps9
  go_wp2_with fail
  refine (dropped_any w).mono ?_
  rintro e w1 ⟨rfl, hb1⟩
  go_wp2_with fail
  refine (put_any M n t _ hs3 ht).mono ?_
  intro e w2 h2
  obtain ⟨rfl, hb2⟩ := told_yes h2 HP.out
  clear h2
  have hb2 := hb1.trans (hb2.mono hb1.size)
  go_wp2_with fail
  refine (drop_any (bs A) n _ HAS.out).mono ?_
  intro e w3 h3
  obtain ⟨rfl, hb3⟩ := told_yes h3 HDR.out
  clear h3
  have hb2 := hb2.trans (hb3.mono hb2.size)
  rw [show bs M.data.toList = M from rfl]
  go_wp2_with fail
  refine (methodOf_any M _ hs3).mono ?_
  intro e w4 h4
  obtain ⟨v4, rfl, ho4⟩ := methodSaid_some HM.out h4
  clear h4
  have HS4 := hid ho4.sl
  have hb4 := hb2.trans (ho4.below.mono hb2.size)
  obtain ⟨a4, c4, rfl⟩ := ho4.sl.val
  clear ho4
  go_wp2_with fail
  refine (change_any M n t _ hs3 ht).mono ?_
  intro e w5 h5
  obtain ⟨rfl, hb5⟩ := told_no h5 HC.out HCZ.out
  clear h5
  go_wp2_with fail
  go_ret
  exact ⟨rfl, hb4.trans (hb5.mono hb4.size)⟩

set_option maxRecDepth 100000 in
set_option maxHeartbeats 1000000 in
theorem back_ny (M t : ByteArray) (n : Int) (w : World) (hs : M.size ≤ 1048576) (ht : t.size ≤ 9223372036854775807) (z : Int) (A : List UInt8) (hp : putOf M.data.toList n t.data.toList = (z, A)) (hz : z ≠ 0) (ts : List (List UInt8)) (g : List UInt8) (hm : methodOf M.data.toList = some (ts, g)) (C : List UInt8) (hc : changeOf M.data.toList n t.data.toList = (0, C)) :
    Calls Tryd.prog 9 #[.string M, .int .i64 n, .string t] w fun e w' => e = .returned (.bool true) ∧ Below w.heap.size w w' := by
  have hs3 : M.size ≤ 10000000 := by omega
  obtain ⟨i, rfl, hi, hbk, hcl⟩ := change_back hm hc
  have HM := hid hm; have HC := hid hc
  have HCS : Hid ((bs C).size ≤ 10000000) := hid (by rw [bs_size]; omega)
  have HBK : Hid (changeOf (bs C).data.toList (i : Int) (bs ts[i]).data.toList = (0, M.data.toList)) := hid hbk
  have HTS : Hid ((bs ts[i]).size ≤ 9223372036854775807) := hid ((types_small hm).2.2 _ (List.mem_map_of_mem (List.getElem_mem hi)))
  have k0 : ¬ (i : Int) < 0 := by omega
  have k1 : ¬ (ts.length : Int) ≤ (i : Int) := by omega
  have k2 : (i : Int) < (ts.length : Int) := by omega
  clear hm hc hbk hcl
  have HP := hid hp; have HPZ := hid hz
  clear hp hz
  go_enter Tryd.func9, Tryd.ntmps9
  go_wp2_with fail
  refine (dropped_any w).mono ?_
  rintro e w1 ⟨rfl, hb1⟩
  go_wp2_with fail
  refine (put_any M (i : Int) t _ hs3 ht).mono ?_
  intro e w2 h2
  obtain ⟨rfl, hb2⟩ := told_no h2 HP.out HPZ.out
  clear h2
  have hb2 := hb1.trans (hb2.mono hb1.size)
  go_wp2_with fail
  refine (methodOf_any M _ hs3).mono ?_
  intro e w4 h4
  obtain ⟨v4, rfl, ho4⟩ := methodSaid_some HM.out h4
  clear h4
  have HS4 := hid ho4.sl
  have hb4 := hb2.trans (ho4.below.mono hb2.size)
  obtain ⟨a4, c4, rfl⟩ := ho4.sl.val
  clear ho4
  go_wp2_with fail
  refine (change_any M (i : Int) t _ hs3 ht).mono ?_
  intro e w5 h5
  obtain ⟨rfl, hb5⟩ := told_yes h5 HC.out
  clear h5
  have HS5 := hid (HS4.out.below hb5)
  have hb5 := hb4.trans (hb5.mono hb4.size)
  obtain ⟨bx, ox, hax, hcx⟩ := sl_sv HS5.out hi
  subst hax
  generalize hX : bs ts[i] = X at hcx
  have HX := hid hX
  clear hX
  go_wp2_with fail
  refine (change_any (bs C) (i : Int) X _ HCS.out (by rw [← HX.out]; exact HTS.out)).mono ?_
  intro e w6 h6
  obtain ⟨rfl, hb6⟩ := told_yes h6 (by rw [← HX.out]; exact HBK.out)
  clear h6
  rw [show bs M.data.toList = M from rfl]
  go_wp2
  go_ret
  exact ⟨by simp, hb5.trans (hb6.mono hb5.size)⟩

set_option maxRecDepth 100000 in
set_option maxHeartbeats 1000000 in
theorem back_yy (M t : ByteArray) (n : Int) (w : World) (hs : M.size ≤ 1048576) (ht : t.size ≤ 9223372036854775807) (A : List UInt8) (hp : putOf M.data.toList n t.data.toList = (0, A)) (ts : List (List UInt8)) (g : List UInt8) (hm : methodOf M.data.toList = some (ts, g)) (C : List UInt8) (hc : changeOf M.data.toList n t.data.toList = (0, C)) :
    Calls Tryd.prog 9 #[.string M, .int .i64 n, .string t] w fun e w' => e = .returned (.bool true) ∧ Below w.heap.size w w' := by
  have hs3 : M.size ≤ 10000000 := by omega
  obtain ⟨i, rfl, hi, hbk, hcl⟩ := change_back hm hc
  have HM := hid hm; have HC := hid hc
  have HCS : Hid ((bs C).size ≤ 10000000) := hid (by rw [bs_size]; omega)
  have HBK : Hid (changeOf (bs C).data.toList (i : Int) (bs ts[i]).data.toList = (0, M.data.toList)) := hid hbk
  have HTS : Hid ((bs ts[i]).size ≤ 9223372036854775807) := hid ((types_small hm).2.2 _ (List.mem_map_of_mem (List.getElem_mem hi)))
  have k0 : ¬ (i : Int) < 0 := by omega
  have k1 : ¬ (ts.length : Int) ≤ (i : Int) := by omega
  have k2 : (i : Int) < (ts.length : Int) := by omega
  clear hm hc hbk hcl
  obtain ⟨hdr, hal⟩ := put_drop hp
  have HP := hid hp
  have HAS : Hid ((bs A).size ≤ 10000000) := hid (by rw [bs_size]; omega)
  have HDR : Hid (dropOf (bs A).data.toList (i : Int) = (0, M.data.toList)) := hid hdr
  clear hp hdr hal
  go_enter Tryd.func9, Tryd.ntmps9
  go_wp2_with fail
  refine (dropped_any w).mono ?_
  rintro e w1 ⟨rfl, hb1⟩
  go_wp2_with fail
  refine (put_any M (i : Int) t _ hs3 ht).mono ?_
  intro e w2 h2
  obtain ⟨rfl, hb2⟩ := told_yes h2 HP.out
  clear h2
  have hb2 := hb1.trans (hb2.mono hb1.size)
  go_wp2_with fail
  refine (drop_any (bs A) (i : Int) _ HAS.out).mono ?_
  intro e w3 h3
  obtain ⟨rfl, hb3⟩ := told_yes h3 HDR.out
  clear h3
  have hb2 := hb2.trans (hb3.mono hb2.size)
  rw [show bs M.data.toList = M from rfl]
  go_wp2_with fail
  refine (methodOf_any M _ hs3).mono ?_
  intro e w4 h4
  obtain ⟨v4, rfl, ho4⟩ := methodSaid_some HM.out h4
  clear h4
  have HS4 := hid ho4.sl
  have hb4 := hb2.trans (ho4.below.mono hb2.size)
  obtain ⟨a4, c4, rfl⟩ := ho4.sl.val
  clear ho4
  go_wp2_with fail
  refine (change_any M (i : Int) t _ hs3 ht).mono ?_
  intro e w5 h5
  obtain ⟨rfl, hb5⟩ := told_yes h5 HC.out
  clear h5
  have HS5 := hid (HS4.out.below hb5)
  have hb5 := hb4.trans (hb5.mono hb4.size)
  obtain ⟨bx, ox, hax, hcx⟩ := sl_sv HS5.out hi
  subst hax
  generalize hX : bs ts[i] = X at hcx
  have HX := hid hX
  clear hX
  go_wp2_with fail
  refine (change_any (bs C) (i : Int) X _ HCS.out (by rw [← HX.out]; exact HTS.out)).mono ?_
  intro e w6 h6
  obtain ⟨rfl, hb6⟩ := told_yes h6 (by rw [← HX.out]; exact HBK.out)
  clear h6
  rw [show bs M.data.toList = M from rfl]
  go_wp2
  go_ret
  exact ⟨by simp, hb5.trans (hb6.mono hb5.size)⟩

theorem back_any (M t : ByteArray) (n : Int) (w : World) (hs : M.size ≤ 1048576) (ht : t.size ≤ 9223372036854775807) :
    Calls Tryd.prog 9 #[.string M, .int .i64 n, .string t] w fun e w' => e = .returned (.bool true) ∧ Below w.heap.size w w' := by
  cases hm : methodOf M.data.toList with
  | none => exact back_none M t n w hs ht hm
  | some r =>
    obtain ⟨ts, g⟩ := r
    obtain ⟨⟨z, A⟩, hp⟩ : ∃ r, putOf M.data.toList n t.data.toList = r := ⟨_, rfl⟩
    obtain ⟨⟨y, C⟩, hc⟩ : ∃ r, changeOf M.data.toList n t.data.toList = r := ⟨_, rfl⟩
    by_cases hz : z = 0
    · subst hz
      by_cases hy : y = 0
      · subst hy; exact back_yy M t n w hs ht A hp ts g hm C hc
      · exact back_yn M t n w hs ht A hp ts g hm y C hc hy
    · by_cases hy : y = 0
      · subst hy; exact back_ny M t n w hs ht z A hp hz ts g hm C hc
      · exact back_nn M t n w hs ht z A hp hz ts g hm y C hc hy

end Go.Proofs.YtdnnnjedobknhaaDoor.mtypes
