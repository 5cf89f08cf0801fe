/- The law FlowTells: its walk. Conditions: the table lies in its variable; the texts and the code are not long. -/
import Derived.Test.YtdnnnjedobknhaaDoorFlow2
import Derived.Test.YtdnnnjedobknhaaDoorFlow7
import Derived.Test.YtdnnnjedobknhaaDoorInts
namespace Go.Proofs.YtdnnnjedobknhaaDoor.flows
open Go.RowKit Go.Proofs.YtdnnnjedobknhaaDoor.lib Go.Proofs.YtdnnnjedobknhaaDoor.errs Go.Proofs.YtdnnnjedobknhaaDoor.names Go.Proofs.YtdnnnjedobknhaaDoor.descs Go.Proofs.YtdnnnjedobknhaaDoor.ins Go.Proofs.YtdnnnjedobknhaaDoor.reach Go.Proofs.YtdnnnjedobknhaaDoor.ints

abbrev E0 : ByteArray := { data := #[] }
def sampleL : List I := [⟨12, 2, 0, E0, E0, E0⟩, ⟨1, 0, 0, E0, E0, E0⟩, ⟨26, 0, 0, E0, E0, E0⟩]
theorem sample_small : ∀ x ∈ sampleL, Small x := by
  intro x hx
  simp only [sampleL, List.mem_cons, List.not_mem_nil, or_false] at hx
  rcases hx with rfl | rfl | rfl <;> exact ⟨by decide, by decide, by decide⟩
theorem sample_next : nextFault sampleL 0 = 0 ∧ nextOf sampleL 0 = [1, 2] := by decide +kernel

set_option maxRecDepth 100000 in
set_option maxHeartbeats 1000000 in
theorem flowing_any (w : World) (hf : FormsAt w) : Calls Tryd.prog 19 #[] w fun e w' => e = .returned (.bool true) ∧ Below w.heap.size w w' := by
  have HF := hid hf
  have HB := hid (ext_alloc w (.cells (cellsOf sampleL).toArray 53))
  have HL := hid (show Code (w.alloc (.cells (cellsOf sampleL).toArray 53)) (.slice (some ⟨w.heap.size, 0, none⟩) 3 3) sampleL from Sl.lit w (cellsOf sampleL).toArray 53 3 6 rfl)
  have HN := hid sample_next
  clear hf
  go_enter Tryd.func19, Tryd.ntmps19
  go_wp2_with fail
  refine (next_any _ sampleL 0 _ HL.out (HF.out.below HB.out) sample_small (by decide)).mono ?_
  rintro e w1 ⟨v, rfl, ho⟩
  rw [HN.out.1]
  rw [HN.out.2] at ho
  have HS := hid ho.sl
  have HB1 := hid (HB.out.trans (ho.below.mono HB.out.size))
  have HL2 := hid (Sl.lit w1 #[.int .i64 1, .int .i64 2] 3 2 1 rfl)
  have HE2 := hid (ext_alloc w1 (.cells #[.int .i64 1, .int .i64 2] 3))
  obtain ⟨a2, c2, rfl⟩ := ho.sl.val
  clear ho
  rw [show errVal 0 = .nilIface from rfl]
  go_wp2_with fail
  refine (ints_any _ _ [1, 2] [1, 2] _ (HS.out.below HE2.out) HL2.out (by decide)).mono ?_
  rintro e w2 ⟨rfl, hb2⟩
  rw [show decide (([1, 2] : List Int) = [1, 2]) = true from rfl]
  have HB2 := hid (HB1.out.trans (HE2.out.mono HB1.out.size))
  go_wp2
  go_ret
  exact ⟨rfl, HB2.out.trans (hb2.mono HB2.out.size)⟩

theorem reached_zero {l : List I} (h : codeFault l = 0) : (reached (succOf l) l.length [0]).length = l.length := reached_len (succ_lt (right_of h).1)

set_option maxRecDepth 100000 in
set_option maxHeartbeats 4000000 in
theorem tells_bad (a : Option Addr) (c : Nat) (l : List I) (n : Int) (w : World) (ha : Code w (.slice a l.length c) l) (hf : FormsAt w) (hs : ∀ x ∈ l, Small x) (hn : l.length ≤ 2000000) (z : Int) (hz : codeFault l = z) (h0 : z ≠ 0) :
    Calls Tryd.prog 4 #[.slice a l.length c, .int .i64 n] w fun e w' => e = .returned (.bool true) ∧ Below w.heap.size w w' := by
  have hn : l.length ≤ 1000000000000 := by omega
  have HFL := hid (fun w hf => flowing_any w hf)
  have HC1 := hid (fun (w : World) (ha : Code w (.slice a l.length c) l) => codeFault_any _ l w ha hs hn)
  have HC2 := hid (fun (w : World) (ha : Code w (.slice a l.length c) l) (hf : FormsAt w) => fcheck_any _ l w ha hf hs hn)
  have HC3 := hid (fun (w : World) (ha : Code w (.slice a l.length c) l) (hf : FormsAt w) => reach_any _ l w ha hf hs hn)
  have HC4 := hid (fun (w : World) (ha : Code w (.slice a l.length c) l) (hf : FormsAt w) => next_any _ l n w ha hf hs hn)
  have HA := hid ha; have HF := hid hf
  clear ha hf hs
  have HZ := hid hz
  have HNF : Hid (nextFault l n = z) := hid (by unfold nextFault; rw [if_neg (by rw [hz]; exact h0), hz])
  have HNO : Hid (nextOf l n = []) := hid (by unfold nextOf; rw [if_neg (by unfold nextFault; rw [if_neg (by rw [hz]; exact h0), hz]; exact h0)])
  have HBD : Hid (¬ codeFault l = 0) := hid (by rw [hz]; exact h0)
  have HEV : Hid (errVal z = .iface 34 (.int .i64 z)) := hid (errVal_ne h0)
  have hzb : (z == 0) = false := by simp [h0]
  have hzm : (z != 0) = true := by simp [h0]
  clear hz
  go_enter Tryd.func4, Tryd.ntmps4
  go_wp2_with fail
  refine (HFL.out _ HF.out).mono ?_
  rintro e w1 ⟨rfl, hb1⟩
  have HB1 := hid hb1
  clear hb1
  go_wp2_with fail
  refine (HC1.out _ (HA.out.below HB1.out)).mono ?_
  rintro e w2 ⟨rfl, hb2⟩
  rw [HZ.out]
  have HB2 := hid (HB1.out.trans (hb2.mono HB1.out.size))
  clear hb2
  go_wp2_with fail
  refine (HC2.out _ (HA.out.below HB2.out) (HF.out.below HB2.out)).mono ?_
  rintro e w3 ⟨rfl, hb3⟩
  rw [HZ.out]
  have HB3 := hid (HB2.out.trans (hb3.mono HB2.out.size))
  clear hb3
  go_wp2_with fail
  refine (error_same z _).mono ?_
  rintro e we ⟨rfl, rfl⟩
  go_wp2_with fail
  refine (HC3.out _ (HA.out.below HB3.out) (HF.out.below HB3.out)).mono ?_
  intro e w4 h4
  obtain ⟨rfl, hb4⟩ := reachBy_bad HBD.out h4
  rw [HZ.out, ← HEV.out]
  clear h4
  have HB4 := hid (HB3.out.trans (hb4.mono HB3.out.size))
  clear hb4
  go_wp2_with fail
  refine (error_same z _).mono ?_
  rintro e we ⟨rfl, rfl⟩
  go_wp2_with fail
  refine (HC4.out _ (HA.out.below HB4.out) (HF.out.below HB4.out)).mono ?_
  rintro e w5 ⟨v, rfl, ho5⟩
  rw [HNF.out]
  rw [HNO.out] at ho5
  have HB5 := hid (HB4.out.trans (ho5.below.mono HB4.out.size))
  have HS5 := hid ho5.sl
  obtain ⟨a5, c5, rfl⟩ := ho5.sl.val
  clear ho5
  go_wp2_with fail
  refine (error_same z _).mono ?_
  rintro e we ⟨rfl, rfl⟩
  go_wp2_with fail
  refine (ints_any _ _ [] [] _ HS5.out (Out.nil _ 3 1).sl (by simp)).mono ?_
  rintro e w6 ⟨rfl, hb6⟩
  rw [show decide (([] : List Int) = []) = true from rfl]
  have HB6 := hid (HB5.out.trans (hb6.mono HB5.out.size))
  clear hb6
  go_wp2_with fail
  refine (ints_any _ _ [] [] _ (Out.nil _ 3 1).sl (Out.nil _ 3 1).sl (by simp)).mono ?_
  rintro e w7 ⟨rfl, hb7⟩
  rw [show decide (([] : List Int) = []) = true from rfl]
  go_wp2
  go_ret
  exact ⟨rfl, HB6.out.trans (hb7.mono HB6.out.size)⟩

set_option maxRecDepth 100000 in
set_option maxHeartbeats 4000000 in
theorem tells_out (a : Option Addr) (c : Nat) (l : List I) (n : Int) (w : World) (ha : Code w (.slice a l.length c) l) (hf : FormsAt w) (hs : ∀ x ∈ l, Small x) (hn : l.length ≤ 2000000) (hz : codeFault l = 0) (hr : n < 0 ∨ (l.length : Int) ≤ n) :
    Calls Tryd.prog 4 #[.slice a l.length c, .int .i64 n] w fun e w' => e = .returned (.bool true) ∧ Below w.heap.size w w' := by
  have hn6 : l.length ≤ 2000000 := hn
  have hn : l.length ≤ 1000000000000 := by omega
  have HFL := hid (fun w hf => flowing_any w hf)
  have HC1 := hid (fun (w : World) (ha : Code w (.slice a l.length c) l) => codeFault_any _ l w ha hs hn)
  have HC2 := hid (fun (w : World) (ha : Code w (.slice a l.length c) l) (hf : FormsAt w) => fcheck_any _ l w ha hf hs hn)
  have HC3 := hid (fun (w : World) (ha : Code w (.slice a l.length c) l) (hf : FormsAt w) => reach_any _ l w ha hf hs hn)
  have HC4 := hid (fun (w : World) (ha : Code w (.slice a l.length c) l) (hf : FormsAt w) => next_any _ l n w ha hf hs hn)
  have HA := hid ha; have HF := hid hf
  clear ha hf hs
  have HZ := hid hz
  have hnf : nextFault l n = 2 := by unfold nextFault; rw [if_pos hz, if_pos hr]
  have HNF := hid hnf
  have HNO : Hid (nextOf l n = []) := hid (by unfold nextOf; rw [if_neg (by rw [hnf]; decide)])
  obtain ⟨hR, hl0, hl40⟩ := right_of hz
  have HR := hid hR
  have HLR := hid (reached_zero hz)
  have HRR := hid hr
  clear hz hnf hR hr
  go_enter Tryd.func4, Tryd.ntmps4
  go_wp2_with fail
  refine (HFL.out _ HF.out).mono ?_
  rintro e w1 ⟨rfl, hb1⟩
  have HB1 := hid hb1
  clear hb1
  go_wp2_with fail
  refine (HC1.out _ (HA.out.below HB1.out)).mono ?_
  rintro e w2 ⟨rfl, hb2⟩
  rw [HZ.out]
  have HB2 := hid (HB1.out.trans (hb2.mono HB1.out.size))
  clear hb2
  go_wp2_with fail
  refine (HC2.out _ (HA.out.below HB2.out) (HF.out.below HB2.out)).mono ?_
  rintro e w3 ⟨rfl, hb3⟩
  rw [HZ.out]
  have HB3 := hid (HB2.out.trans (hb3.mono HB2.out.size))
  clear hb3
  go_wp2_with fail
  refine (error_same 0 _).mono ?_
  rintro e we ⟨rfl, rfl⟩
  go_wp2_with fail
  refine (HC3.out _ (HA.out.below HB3.out) (HF.out.below HB3.out)).mono ?_
  intro e w4 h4
  obtain ⟨v4, rfl, ho4⟩ := reachBy_good HZ.out h4
  clear h4
  have HB4 := hid (HB3.out.trans (ho4.below.mono HB3.out.size))
  have HS4 := hid ho4.sl
  obtain ⟨a4, c4, rfl⟩ := ho4.sl.val
  clear ho4
  rw [show (Value.nilIface : Value) = errVal 0 from rfl]
  go_wp2_with fail
  refine (error_same 0 _).mono ?_
  rintro e we ⟨rfl, rfl⟩
  go_wp2_with fail
  refine (HC4.out _ (HA.out.below HB4.out) (HF.out.below HB4.out)).mono ?_
  rintro e w5 ⟨v, rfl, ho5⟩
  rw [HNF.out]
  rw [HNO.out] at ho5
  have HB5 := hid (HB4.out.trans (ho5.below.mono HB4.out.size))
  have HS5 := hid ho5.sl
  have HS45 := hid (HS4.out.below ho5.below)
  obtain ⟨a5, c5, rfl⟩ := ho5.sl.val
  clear ho5
  have hr1 := HRR.out
  by_cases hlt : n < 0
  · clear hr1
    go_wp2_with fail
    refine (error_same 2 _).mono ?_
    rintro e we ⟨rfl, rfl⟩
    have HL := hid (Sl.lit w5 #[.int .i64 0] 3 1 1 rfl)
    have HE := hid (ext_alloc w5 (.cells #[.int .i64 0] 3))
    have HB6 := hid (HB5.out.trans (HE.out.mono HB5.out.size))
    go_wp2_with fail
    refine (reached_any _ _ l [0] _ (HA.out.below HB6.out) HL.out HR.out (fun k hk => by rw [List.mem_singleton.1 hk]; exact hl0) hn6 (by simp)).mono ?_
    rintro e w7 ⟨v7, rfl, ho7⟩
    have HB7 := hid (HB6.out.trans (ho7.below.mono HB6.out.size))
    have HS7 := hid (show Sl w7 v7 (reached (succOf l) l.length [0]).length 1 (bools (reached (succOf l) l.length [0])) from by rw [HLR.out]; exact ho7.sl)
    have HS47 := hid ((HS45.out.below HE.out).below ho7.below)
    have HS57 := hid ((HS5.out.below HE.out).below ho7.below)
    obtain ⟨a7, c7, rfl⟩ := ho7.sl.val
    clear ho7
    go_wp2_with fail
    refine (lreached_any _ _ _ HS7.out (by rw [HLR.out]; omega)).mono ?_
    rintro e w8 ⟨v8, rfl, ho8⟩
    rw [HLR.out] at ho8
    have HB8 := hid (HB7.out.trans (ho8.below.mono HB7.out.size))
    have HS8 := hid (show Sl w8 v8 (reachOf l).length 1 (nats (reachOf l)) from ho8.sl)
    have HS48 := hid (HS47.out.below ho8.below)
    have HS58 := hid (HS57.out.below ho8.below)
    obtain ⟨a8, c8, rfl⟩ := ho8.sl.val
    clear ho8
    go_wp2_with fail
    refine (ints_any _ _ ([] : List Int) ([] : List Int) _ HS58.out (Out.nil _ 3 1).sl (by simp)).mono ?_
    rintro e w9 ⟨rfl, hb9⟩
    rw [show decide (([] : List Int) = ([] : List Int)) = true from by simp]
    have HB9 := hid (HB8.out.trans (hb9.mono HB8.out.size))
    have HS49 := hid (HS48.out.below hb9)
    have HS89 := hid (HS8.out.below hb9)
    clear hb9
    go_wp2_with fail
    refine (ints_any _ _ ((reachOf l).map fun j : Nat => (j : Int)) ((reachOf l).map fun j : Nat => (j : Int)) _ (by rw [List.length_map]; exact HS49.out) (by rw [List.length_map]; exact HS89.out) (by rw [List.length_map]; have := idx_le (reached (succOf l) l.length [0]) l.length; unfold reachOf; omega)).mono ?_
    rintro e w10 ⟨rfl, hb10⟩
    rw [show decide (((reachOf l).map fun j : Nat => (j : Int)) = (reachOf l).map fun j : Nat => (j : Int)) = true from by simp]
    go_wp2
    go_ret
    exact ⟨rfl, HB9.out.trans (hb10.mono HB9.out.size)⟩
  · have hge : (l.length : Int) ≤ n := by omega
    clear hr1
    go_wp2_with fail
    refine (error_same 2 _).mono ?_
    rintro e we ⟨rfl, rfl⟩
    have HL := hid (Sl.lit w5 #[.int .i64 0] 3 1 1 rfl)
    have HE := hid (ext_alloc w5 (.cells #[.int .i64 0] 3))
    have HB6 := hid (HB5.out.trans (HE.out.mono HB5.out.size))
    go_wp2_with fail
    refine (reached_any _ _ l [0] _ (HA.out.below HB6.out) HL.out HR.out (fun k hk => by rw [List.mem_singleton.1 hk]; exact hl0) hn6 (by simp)).mono ?_
    rintro e w7 ⟨v7, rfl, ho7⟩
    have HB7 := hid (HB6.out.trans (ho7.below.mono HB6.out.size))
    have HS7 := hid (show Sl w7 v7 (reached (succOf l) l.length [0]).length 1 (bools (reached (succOf l) l.length [0])) from by rw [HLR.out]; exact ho7.sl)
    have HS47 := hid ((HS45.out.below HE.out).below ho7.below)
    have HS57 := hid ((HS5.out.below HE.out).below ho7.below)
    obtain ⟨a7, c7, rfl⟩ := ho7.sl.val
    clear ho7
    go_wp2_with fail
    refine (lreached_any _ _ _ HS7.out (by rw [HLR.out]; omega)).mono ?_
    rintro e w8 ⟨v8, rfl, ho8⟩
    rw [HLR.out] at ho8
    have HB8 := hid (HB7.out.trans (ho8.below.mono HB7.out.size))
    have HS8 := hid (show Sl w8 v8 (reachOf l).length 1 (nats (reachOf l)) from ho8.sl)
    have HS48 := hid (HS47.out.below ho8.below)
    have HS58 := hid (HS57.out.below ho8.below)
    obtain ⟨a8, c8, rfl⟩ := ho8.sl.val
    clear ho8
    go_wp2_with fail
    refine (ints_any _ _ ([] : List Int) ([] : List Int) _ HS58.out (Out.nil _ 3 1).sl (by simp)).mono ?_
    rintro e w9 ⟨rfl, hb9⟩
    rw [show decide (([] : List Int) = ([] : List Int)) = true from by simp]
    have HB9 := hid (HB8.out.trans (hb9.mono HB8.out.size))
    have HS49 := hid (HS48.out.below hb9)
    have HS89 := hid (HS8.out.below hb9)
    clear hb9
    go_wp2_with fail
    refine (ints_any _ _ ((reachOf l).map fun j : Nat => (j : Int)) ((reachOf l).map fun j : Nat => (j : Int)) _ (by rw [List.length_map]; exact HS49.out) (by rw [List.length_map]; exact HS89.out) (by rw [List.length_map]; have := idx_le (reached (succOf l) l.length [0]) l.length; unfold reachOf; omega)).mono ?_
    rintro e w10 ⟨rfl, hb10⟩
    rw [show decide (((reachOf l).map fun j : Nat => (j : Int)) = (reachOf l).map fun j : Nat => (j : Int)) = true from by simp]
    go_wp2
    go_ret
    exact ⟨rfl, HB9.out.trans (hb10.mono HB9.out.size)⟩

set_option maxRecDepth 100000 in
set_option maxHeartbeats 4000000 in
theorem tells_in (a : Option Addr) (c : Nat) (l : List I) (k : Nat) (w : World) (ha : Code w (.slice a l.length c) l) (hf : FormsAt w) (hs : ∀ x ∈ l, Small x) (hn : l.length ≤ 2000000) (hz : codeFault l = 0) (hk : k < l.length) :
    Calls Tryd.prog 4 #[.slice a l.length c, .int .i64 (k : Int)] w fun e w' => e = .returned (.bool true) ∧ Below w.heap.size w w' := by
  have hn6 : l.length ≤ 2000000 := hn
  have hn : l.length ≤ 1000000000000 := by omega
  have HFL := hid (fun w hf => flowing_any w hf)
  have HC1 := hid (fun (w : World) (ha : Code w (.slice a l.length c) l) => codeFault_any _ l w ha hs hn)
  have HC2 := hid (fun (w : World) (ha : Code w (.slice a l.length c) l) (hf : FormsAt w) => fcheck_any _ l w ha hf hs hn)
  have HC3 := hid (fun (w : World) (ha : Code w (.slice a l.length c) l) (hf : FormsAt w) => reach_any _ l w ha hf hs hn)
  have HC4 := hid (fun (w : World) (ha : Code w (.slice a l.length c) l) (hf : FormsAt w) => next_any _ l (k : Int) w ha hf hs hn)
  have HA := hid ha; have HF := hid hf
  clear ha hf hs
  have HZ := hid hz
  have hnf : nextFault l (k : Int) = 0 := by unfold nextFault; rw [if_pos hz, if_neg (by omega)]
  have HNF := hid hnf
  have HNO : Hid (nextOf l (k : Int) = afterOf l[k] k) := hid (by unfold nextOf; rw [if_pos hnf, Int.toNat_natCast, List.getElem?_eq_getElem hk])
  obtain ⟨hR, hl0, hl40⟩ := right_of hz
  have HR := hid hR
  have HLR := hid (reached_zero hz)
  have HAL := hid (after_len l[k] k)
  clear hz hnf hR
  have hk0 : ¬ (k : Int) < 0 := by omega
  have hk1 : ¬ (l.length : Int) ≤ (k : Int) := by omega
  go_enter Tryd.func4, Tryd.ntmps4
  go_wp2_with fail
  refine (HFL.out _ HF.out).mono ?_
  rintro e w1 ⟨rfl, hb1⟩
  have HB1 := hid hb1
  clear hb1
  go_wp2_with fail
  refine (HC1.out _ (HA.out.below HB1.out)).mono ?_
  rintro e w2 ⟨rfl, hb2⟩
  rw [HZ.out]
  have HB2 := hid (HB1.out.trans (hb2.mono HB1.out.size))
  clear hb2
  go_wp2_with fail
  refine (HC2.out _ (HA.out.below HB2.out) (HF.out.below HB2.out)).mono ?_
  rintro e w3 ⟨rfl, hb3⟩
  rw [HZ.out]
  have HB3 := hid (HB2.out.trans (hb3.mono HB2.out.size))
  clear hb3
  go_wp2_with fail
  refine (error_same 0 _).mono ?_
  rintro e we ⟨rfl, rfl⟩
  go_wp2_with fail
  refine (HC3.out _ (HA.out.below HB3.out) (HF.out.below HB3.out)).mono ?_
  intro e w4 h4
  obtain ⟨v4, rfl, ho4⟩ := reachBy_good HZ.out h4
  clear h4
  have HB4 := hid (HB3.out.trans (ho4.below.mono HB3.out.size))
  have HS4 := hid ho4.sl
  obtain ⟨a4, c4, rfl⟩ := ho4.sl.val
  clear ho4
  rw [show (Value.nilIface : Value) = errVal 0 from rfl]
  go_wp2_with fail
  refine (error_same 0 _).mono ?_
  rintro e we ⟨rfl, rfl⟩
  go_wp2_with fail
  refine (HC4.out _ (HA.out.below HB4.out) (HF.out.below HB4.out)).mono ?_
  rintro e w5' ⟨v, rfl, ho5⟩
  rw [HNF.out]
  rw [HNO.out] at ho5
  have HB5' := hid (HB4.out.trans (ho5.below.mono HB4.out.size))
  have HS5' := hid ho5.sl
  have HS45' := hid (HS4.out.below ho5.below)
  obtain ⟨a5, c5, rfl⟩ := ho5.sl.val
  clear ho5
  go_wp2_with fail
  refine (error_same 0 _).mono ?_
  rintro e we ⟨rfl, rfl⟩
  go_wp2_with fail
  refine (rafter_any _ l k _ (HA.out.below HB5'.out) hk hn).mono ?_
  rintro e w5 ⟨vw, rfl, how⟩
  have HB5 := hid (HB5'.out.trans (how.below.mono HB5'.out.size))
  have HS5 := hid (HS5'.out.below how.below)
  have HS45 := hid (HS45'.out.below how.below)
  have HWW := hid how.sl
  obtain ⟨aw, cw, rfl⟩ := how.sl.val
  clear how
  have HL := hid (Sl.lit w5 #[.int .i64 0] 3 1 1 rfl)
  have HE := hid (ext_alloc w5 (.cells #[.int .i64 0] 3))
  have HB6 := hid (HB5.out.trans (HE.out.mono HB5.out.size))
  go_wp2_with fail
  refine (reached_any _ _ l [0] _ (HA.out.below HB6.out) HL.out HR.out (fun k hk => by rw [List.mem_singleton.1 hk]; exact hl0) hn6 (by simp)).mono ?_
  rintro e w7 ⟨v7, rfl, ho7⟩
  have HB7 := hid (HB6.out.trans (ho7.below.mono HB6.out.size))
  have HS7 := hid (show Sl w7 v7 (reached (succOf l) l.length [0]).length 1 (bools (reached (succOf l) l.length [0])) from by rw [HLR.out]; exact ho7.sl)
  have HS47 := hid ((HS45.out.below HE.out).below ho7.below)
  have HS57 := hid ((HS5.out.below HE.out).below ho7.below)
  have HW7 := hid ((HWW.out.below HE.out).below ho7.below)
  obtain ⟨a7, c7, rfl⟩ := ho7.sl.val
  clear ho7
  go_wp2_with fail
  refine (lreached_any _ _ _ HS7.out (by rw [HLR.out]; omega)).mono ?_
  rintro e w8 ⟨v8, rfl, ho8⟩
  rw [HLR.out] at ho8
  have HB8 := hid (HB7.out.trans (ho8.below.mono HB7.out.size))
  have HS8 := hid (show Sl w8 v8 (reachOf l).length 1 (nats (reachOf l)) from ho8.sl)
  have HS48 := hid (HS47.out.below ho8.below)
  have HS58 := hid (HS57.out.below ho8.below)
  have HW8 := hid (HW7.out.below ho8.below)
  obtain ⟨a8, c8, rfl⟩ := ho8.sl.val
  clear ho8
  go_wp2_with fail
  refine (ints_any _ _ (afterOf l[k] k) (afterOf l[k] k) _ HS58.out HW8.out (by have := HAL.out; omega)).mono ?_
  rintro e w9 ⟨rfl, hb9⟩
  rw [show decide ((afterOf l[k] k) = (afterOf l[k] k)) = true from by simp]
  have HB9 := hid (HB8.out.trans (hb9.mono HB8.out.size))
  have HS49 := hid (HS48.out.below hb9)
  have HS89 := hid (HS8.out.below hb9)
  clear hb9
  go_wp2_with fail
  refine (ints_any _ _ ((reachOf l).map fun j : Nat => (j : Int)) ((reachOf l).map fun j : Nat => (j : Int)) _ (by rw [List.length_map]; exact HS49.out) (by rw [List.length_map]; exact HS89.out) (by rw [List.length_map]; have := idx_le (reached (succOf l) l.length [0]) l.length; unfold reachOf; omega)).mono ?_
  rintro e w10 ⟨rfl, hb10⟩
  rw [show decide (((reachOf l).map fun j : Nat => (j : Int)) = (reachOf l).map fun j : Nat => (j : Int)) = true from by simp]
  go_wp2
  go_ret
  exact ⟨rfl, HB9.out.trans (hb10.mono HB9.out.size)⟩

theorem tells_any (va : Value) (l : List I) (n : Int) (w : World) (ha : Code w va l) (hf : FormsAt w) (hs : ∀ x ∈ l, Small x) (hn : l.length ≤ 2000000) :
    Calls Tryd.prog 4 #[va, .int .i64 n] w fun e w' => e = .returned (.bool true) ∧ Below w.heap.size w w' := by
  obtain ⟨a, c, rfl⟩ := ha.val
  by_cases hz : codeFault l = 0
  · by_cases hr : n < 0 ∨ (l.length : Int) ≤ n
    · exact tells_out a c l n w ha hf hs hn hz hr
    · obtain ⟨k, rfl⟩ : ∃ k : Nat, n = (k : Int) := ⟨n.toNat, by omega⟩
      exact tells_in a c l k w ha hf hs hn hz (by omega)
  · exact tells_bad a c l n w ha hf hs hn _ rfl hz

end Go.Proofs.YtdnnnjedobknhaaDoor.flows
