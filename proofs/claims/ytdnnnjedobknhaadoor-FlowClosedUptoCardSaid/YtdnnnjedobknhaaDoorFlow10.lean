/- The law FlowClosed: its walk. Conditions: the table lies in its variable; the texts and the code are not long. -/
import Derived.Test.YtdnnnjedobknhaaDoorFlow8
namespace Go.Proofs.YtdnnnjedobknhaaDoor.flows
open Go.RowKit Go.Proofs.YtdnnnjedobknhaaDoor.lib Go.Proofs.YtdnnnjedobknhaaDoor.errs Go.Proofs.YtdnnnjedobknhaaDoor.names Go.Proofs.YtdnnnjedobknhaaDoor.descs Go.Proofs.YtdnnnjedobknhaaDoor.ins Go.Proofs.YtdnnnjedobknhaaDoor.reach Go.Proofs.YtdnnnjedobknhaaDoor.ints

/-- marks in a block of their own -/
abbrev MarksAt (w0 w : World) (g n : Nat) (s : List Bool) : Prop := Out w0 w 4 1 (.slice (some ⟨g, 0, none⟩) n n) n (bools s)
theorem MarksAt.cells {w0 w : World} {g n : Nat} {s : List Bool} (h : MarksAt w0 w g n s) (hl : s.length = n) {k : Nat} (hk : k < n) :
    w.cell? ⟨g, k, none⟩ = some (.bool (s[k]'(by omega))) ∧ w.frozen? ⟨g, k, none⟩ = false ∧ MarksAt w0 (w.setCell ⟨g, k, none⟩ (.bool true)) g n (s.set k true) := by
  obtain ⟨g0, cap0, u0, hv0, hg0, hcu, hfz, hset⟩ := Out.store h hk
  simp only [Value.slice.injEq, Option.some.injEq, Addr.mk.injEq] at hv0
  obtain ⟨⟨rfl, _, _⟩, _, rfl⟩ := hv0
  obtain ⟨gs, cs, hvs, hcs, hscells⟩ := Out.shape h (by omega)
  simp only [Value.slice.injEq, Option.some.injEq, Addr.mk.injEq] at hvs
  obtain ⟨⟨rfl, _, _⟩, _, rfl⟩ := hvs
  refine ⟨hscells k _ (bools_at (by omega)), hfz, ?_⟩
  have := hset (.bool true)
  rwa [bools_set] at this
theorem MarksAt.read {w0 w : World} {g n : Nat} {s : List Bool} (h : MarksAt w0 w g n s) {k : Nat} (hk : At s k) : w.cell? ⟨g, k, none⟩ = some (.bool true) := by
  have hlt := hk.lt
  have hl : s.length = n := by have := h.own.1; simp [bools] at this; exact this
  obtain ⟨h1, _, _⟩ := h.cells hl (k := k) (by omega)
  rw [h1]
  unfold At at hk
  rw [List.getElem?_eq_getElem hlt] at hk
  rw [Option.some.inj hk]
theorem apart_blocks {g1 g2 n : Nat} (h : g1 ≠ g2) : Apart (.slice (some ⟨g1, 0, none⟩) n n) (.slice (some ⟨g2, 0, none⟩) n n) := fun k h1 h2 => by
  cases h1
  exact h (Option.some.inj h2).symm

theorem idx_mem {s : List Bool} {n k : Nat} : k ∈ idxTo s n ↔ k < n ∧ At s k := by
  unfold idxTo At
  rw [List.mem_filter, List.mem_range]; simp
theorem reach_mem {l : List I} (h : codeFault l = 0) {k : Nat} : k ∈ reachOf l ↔ Come (succOf l) [0] k := by
  obtain ⟨hR, h0, _⟩ := right_of h
  have hf : ∀ k ∈ [0], k < l.length := fun k hk => by rw [List.mem_singleton.1 hk]; exact h0
  unfold reachOf
  rw [idx_mem, reached_at (succ_lt hR) hf]
  exact ⟨fun h => h.2, fun h => ⟨come_lt (succ_lt hR) hf h, h⟩⟩
theorem reach_lt {l : List I} (_h : codeFault l = 0) : ∀ k ∈ reachOf l, k < l.length := fun k hk => by
  unfold reachOf at hk
  exact (idx_mem.1 hk).1
theorem mark_reach {l : List I} (h : codeFault l = 0) (k : Nat) : At (reach.mark (List.replicate l.length false) (reachOf l)) k ↔ Come (succOf l) [0] k := by
  rw [at_mark _ (fun j hj => by rw [List.length_replicate]; exact reach_lt h j hj), reach_mem h]
  exact ⟨fun h => h.elim id (fun h => absurd h at_false), .inl⟩

/-- which places some of the reachable ones lead to -/
def Led (l : List I) (rs : List Nat) (s : List Bool) : Prop := s.length = l.length ∧ ∀ k, At s k ↔ k = 0 ∨ ∃ r ∈ rs, k ∈ succOf l r
theorem led_start {l : List I} (h : 0 < l.length) : Led l [] ((List.replicate l.length false).set 0 true) := by
  refine ⟨by rw [List.length_set, List.length_replicate], fun k => ?_⟩
  rw [at_set (by rw [List.length_replicate]; exact h)]
  exact ⟨fun h => h.elim .inl (fun h => absurd h at_false), fun h => h.elim .inl (fun ⟨_, hr, _⟩ => by cases hr)⟩
theorem led_step {l : List I} {rs : List Nat} {s : List Bool} {i : Nat} (h : Led l (rs.take i) s) (hi : i < rs.length) (hj : ∀ j ∈ succOf l rs[i], j < l.length) : Led l (rs.take (i + 1)) (reach.mark s (succOf l rs[i])) := by
  refine ⟨by rw [mark_len]; exact h.1, fun k => ?_⟩
  rw [at_mark _ (fun j hj' => by rw [h.1]; exact hj j hj'), h.2, List.take_add_one, List.getElem?_eq_getElem hi, Option.toList_some]
  constructor
  · rintro (h1 | h1 | ⟨r, h1, h2⟩)
    · exact .inr ⟨_, List.mem_append_right _ (List.mem_singleton.2 rfl), h1⟩
    · exact .inl h1
    · exact .inr ⟨r, List.mem_append_left _ h1, h2⟩
  · rintro (h1 | ⟨r, h1, h2⟩)
    · exact .inr (.inl h1)
    · rcases List.mem_append.1 h1 with h3 | h3
      · exact .inr (.inr ⟨r, h3, h2⟩)
      · rw [List.mem_singleton.1 h3] at h2; exact .inl h2
theorem led_end {l : List I} (h : codeFault l = 0) {s : List Bool} (hl : Led l (reachOf l) s) {k : Nat} (hk : Come (succOf l) [0] k) : At s k := by
  rw [hl.2]
  cases hk with
  | base h1 => exact .inl (List.mem_singleton.1 h1)
  | step h1 h2 => exact .inr ⟨_, (reach_mem h).2 h1, h2⟩

theorem next_at {l : List I} (h : codeFault l = 0) {k : Nat} (hk : k < l.length) : nextFault l (k : Int) = 0 ∧ nextOf l (k : Int) = (succOf l k).map (fun j : Nat => (j : Int)) := by
  have hn : nextFault l (k : Int) = 0 := by unfold nextFault; rw [if_pos h, if_neg (by omega)]
  refine ⟨hn, ?_⟩
  unfold nextOf
  rw [if_pos hn, Int.toNat_natCast, List.getElem?_eq_getElem hk]
  exact succ_ints (right_of h).1 hk

set_option maxRecDepth 100000 in
set_option maxHeartbeats 2000000 in
theorem closed_bad (va : Value) (l : List I) (w : World) (ha : Go.Proofs.YtdnnnjedobknhaaDoor.flows.Code w va l) (hf : FormsAt w) (hs : ∀ x ∈ l, Small x) (hn : l.length ≤ 2000000) (hz : ¬ codeFault l = 0) :
    Calls Tryd.prog 5 #[va] w fun e w' => e = .returned (.bool true) ∧ Below w.heap.size w w' := by
  obtain ⟨a, c, rfl⟩ := ha.val
  have HFL := hid (fun w hf => flowing_any w hf)
  have HC3 := hid (fun (w : World) (ha : Go.Proofs.YtdnnnjedobknhaaDoor.flows.Code w (.slice a l.length c) l) (hf : FormsAt w) => reach_any _ l w ha hf hs (by omega))
  have HA := hid ha; have HF := hid hf; have HZ := hid hz
  clear ha hf hs hz
  go_enter Tryd.func5, Tryd.ntmps5
  go_wp2_with fail
  refine (HFL.out _ HF.out).mono ?_
  rintro e w1 ⟨rfl, hb1⟩
  have HB1 := hid hb1
  clear hb1
  go_wp2_with fail
  refine (HC3.out _ (HA.out.below HB1.out) (HF.out.below HB1.out)).mono ?_
  intro e w2 h2
  obtain ⟨rfl, hb2⟩ := reachBy_bad HZ.out h2
  clear h2
  go_wp2
  go_ret
  exact ⟨rfl, HB1.out.trans (hb2.mono HB1.out.size)⟩

set_option maxRecDepth 100000 in
set_option maxHeartbeats 8000000 in
theorem closed_good (va : Value) (l : List I) (w : World) (ha : Go.Proofs.YtdnnnjedobknhaaDoor.flows.Code w va l) (hf : FormsAt w) (hs : ∀ x ∈ l, Small x) (hn : l.length ≤ 2000000) (hz : codeFault l = 0) :
    Calls Tryd.prog 5 #[va] w fun e w' => e = .returned (.bool true) ∧ Below w.heap.size w w' := by
  obtain ⟨a, c, rfl⟩ := ha.val
  have HFL := hid (fun w hf => flowing_any w hf)
  have HC3 := hid (fun (w : World) (ha : Go.Proofs.YtdnnnjedobknhaaDoor.flows.Code w (.slice a l.length c) l) (hf : FormsAt w) => reach_any _ l w ha hf hs (by omega))
  have HC4 := hid (fun (w : World) (k : Nat) (ha : Go.Proofs.YtdnnnjedobknhaaDoor.flows.Code w (.slice a l.length c) l) (hf : FormsAt w) => next_any _ l (k : Int) w ha hf hs (by omega))
  have HA := hid ha; have HF := hid hf; have HZ := hid hz
  obtain ⟨hR, hl0, hl40⟩ := right_of hz
  have HR := hid hR
  have HRL := hid (reach_lt hz)
  have HMR := hid (mark_reach hz)
  have HLE := hid (fun s h k => led_end (s := s) hz h (k := k))
  have HNA := hid (fun k h => next_at (k := k) hz h)
  have HRM := hid (fun k => reach_mem hz (k := k))
  have hrl : (reachOf l).length ≤ l.length := idx_le _ _
  have hmk := run_make_row' (P := Tryd.prog) 43 4 (.bool false) 1 Tryd.underlying43 infoBool rfl .i64 .i64 l.length (by omega) (by omega)
  rw [madeCells_one] at hmk
  clear ha hf hs hz hR
  go_enter Tryd.func5, Tryd.ntmps5
  go_wp2_with fail
  refine (HFL.out _ HF.out).mono ?_
  rintro e w1 ⟨rfl, hb1⟩
  have HB1 := hid hb1
  clear hb1
  go_wp2_with fail
  refine (HC3.out _ (HA.out.below HB1.out) (HF.out.below HB1.out)).mono ?_
  intro e w2 h2
  obtain ⟨v2, rfl, ho2⟩ := reachBy_good HZ.out h2
  clear h2
  have HB2 := hid (HB1.out.trans (ho2.below.mono HB1.out.size))
  have HRS := hid ho2.sl
  obtain ⟨a2, c2, rfl⟩ := ho2.sl.val
  obtain ⟨rs, hrs⟩ : ∃ rs, reachOf l = rs := ⟨_, rfl⟩
  rw [hrs] at HRS HRL HMR HLE HRM hrl ⊢
  have HA2 := hid (HA.out.below HB2.out)
  have HF2 := hid (HF.out.below HB2.out)
  clear ho2 hrs
  have HM1 : Hid (MarksAt w2 ((w2.alloc (.cells (Array.replicate l.length (.bool false)) 4)).alloc (.cells (Array.replicate l.length (.bool false)) 4)) w2.heap.size l.length (List.replicate l.length false)) := hid (by
    have h1 := (Out.row w2 (.bool false) 4 l.length (by unfold maxLen; omega)).alloc (.cells (Array.replicate l.length (.bool false)) 4)
    unfold MarksAt
    rw [show bools (List.replicate l.length false) = List.replicate l.length (.bool false) from by simp [bools]]; exact h1)
  have HM2 : Hid (MarksAt w2 ((w2.alloc (.cells (Array.replicate l.length (.bool false)) 4)).alloc (.cells (Array.replicate l.length (.bool false)) 4)) (w2.heap.size + 1) l.length (List.replicate l.length false)) := hid (by
    have h1 := Out.row (w2.alloc (.cells (Array.replicate l.length (.bool false)) 4)) (.bool false) 4 l.length (by unfold maxLen; omega)
    have h2 := Out.since (ext_alloc w2 (.cells (Array.replicate l.length (.bool false)) 4)) h1
    unfold MarksAt
    rw [show bools (List.replicate l.length false) = List.replicate l.length (.bool false) from by simp [bools]]
    simpa using h2)
  have HAP := hid (apart_blocks (g1 := w2.heap.size) (g2 := w2.heap.size + 1) (n := l.length) (by omega))
  go_wp2_with fail
  go_loopw [8] (fun i wr => ∃ k : Nat, k ≤ rs.length ∧ i = .int .i64 k ∧ Hid (MarksAt w2 wr w2.heap.size l.length (reach.mark (List.replicate l.length false) (rs.take k))) ∧ Hid (MarksAt w2 wr (w2.heap.size + 1) l.length (List.replicate l.length false))) (fun i _ => rs.length - (intOf i).toNat)
  case atStart => exact ⟨0, Nat.zero_le _, rfl, HM1, HM2⟩
  case round =>
    obtain ⟨k, hk, rfl, HI, HG⟩ := hrel
    clear HM1 HM2 hmk
    by_cases hlt : k < rs.length
    · obtain ⟨bx, ox, hax, hcx⟩ := ints_read (HRS.out.below HI.out.below) hlt
      subst hax
      have hkl := HRL.out _ (List.getElem_mem hlt)
      obtain ⟨hm0, hm2, hm3⟩ := MarksAt.cells HI.out (by rw [mark_len, List.length_replicate]) hkl
      have HI2 := hid (show MarksAt w2 _ w2.heap.size l.length (reach.mark (List.replicate l.length false) (rs.take (k + 1))) from by rw [mark_take hlt]; exact hm3)
      have HG2 := hid (HI.out.set_other (x := .bool true) HG.out HAP.out rs[k])
      obtain ⟨B, hm1⟩ : ∃ B, wr.cell? ⟨w2.heap.size, rs[k], none⟩ = some (.bool B) := ⟨_, hm0⟩
      have hi : (0 : Int) ≤ (k : Int) := by omega
      have hkf : (k : Int) < (rs.length : Int) := by omega
      clear hm0 hm3
      generalize rs[k] = K at hkl hm1 hm2 HI2 HG2 hcx
      have hK0 : (0 : Int) ≤ (K : Int) := by omega
      have hKl : (K : Int) < (l.length : Int) := by omega
      go_wp2
      go_roundw
      case rel => exact ⟨k + 1, by omega, by go_num, HI2, HG2⟩
      case measure => simp [intOf]; omega
    · have HI2 : Hid (MarksAt w2 wr w2.heap.size l.length (reach.mark (List.replicate l.length false) rs)) := hid (by
        have := HI.out
        rwa [List.take_of_length_le (by omega)] at this)
      obtain ⟨sI, hsI⟩ : ∃ sI, reach.mark (List.replicate l.length false) rs = sI := ⟨_, rfl⟩
      have hlI : sI.length = l.length := by rw [← hsI, mark_len, List.length_replicate]
      rw [hsI] at HI2 HMR
      obtain ⟨hm0, hm2, hm3⟩ := MarksAt.cells HG.out (by rw [List.length_replicate]) hl0
      have HI3 := hid (HG.out.set_other (x := .bool true) HI2.out HAP.out.symm 0)
      have HG3 : Hid (∃ s, Led l (rs.take 0) s ∧ MarksAt w2 _ (w2.heap.size + 1) l.length s) := hid ⟨_, led_start hl0, hm3⟩
      obtain ⟨B, hm1⟩ : ∃ B, wr.cell? ⟨w2.heap.size + 1, 0, none⟩ = some (.bool B) := ⟨_, hm0⟩
      have hl00 : (0 : Int) < (l.length : Int) := by omega
      clear hm0 hm3 HI HG HI2 hsI
      go_wp2_with fail
      go_loopw [9] (fun i wr => ∃ k : Nat, k ≤ rs.length ∧ i = .int .i64 k ∧ Hid (MarksAt w2 wr w2.heap.size l.length sI) ∧ Hid (∃ s, Led l (rs.take k) s ∧ MarksAt w2 wr (w2.heap.size + 1) l.length s)) (fun i _ => rs.length - (intOf i).toNat)
      case atStart => exact ⟨0, Nat.zero_le _, rfl, HI3, HG3⟩
      case round =>
        obtain ⟨i, hi, rfl, HI4, HG4⟩ := hrel
        clear HI3 HG3 hm1 hm2
        by_cases hit : i < rs.length
        · obtain ⟨s4, hs4, hg4⟩ := HG4.out
          obtain ⟨bx, ox, hax, hcx⟩ := ints_read (HRS.out.below HI4.out.below) hit
          subst hax
          have hkl := HRL.out _ (List.getElem_mem hit)
          have HIN : Hid (∀ j ∈ succOf l rs[i], At sI j) := hid (fun j hj => (HMR.out j).2 (.step ((HRM.out _).1 (List.getElem_mem hit)) hj))
          have HSJ := hid (succ_lt HR.out _ hkl)
          have HLS := hid (led_step hs4 hit HSJ.out)
          have HNX := hid (HNA.out _ hkl)
          have hj2 : (succOf l rs[i]).length ≤ 2 := by rw [succ_at hkl, List.length_map]; exact after_len _ _
          have hl4 := hs4.1
          have HG5 := hid hg4
          have hi0 : (0 : Int) ≤ (i : Int) := by omega
          have hif : (i : Int) < (rs.length : Int) := by omega
          clear hs4 hg4 HG4
          generalize rs[i] = K at hkl hcx HIN HSJ HLS HNX hj2
          go_wp2_with fail
          refine (HC4.out _ K (HA2.out.below HI4.out.below) (HF2.out.below HI4.out.below)).mono ?_
          rintro e w5 ⟨v5, rfl, ho5⟩
          rw [HNX.out.1]
          rw [HNX.out.2, List.length_map] at ho5
          have hg1 := (HG5.out.own.lt _ rfl).2
          simp only at hg1
          obtain ⟨js, hjs⟩ : ∃ js, succOf l K = js := ⟨_, rfl⟩
          rw [hjs] at ho5 HIN HSJ HLS hj2
          have HAV : Hid (Apart (.slice (some ⟨w2.heap.size + 1, 0, none⟩) l.length l.length) v5) := hid (fun k hk h2 => by
            cases hk
            have := (ho5.own.lt _ h2).1
            simp only at this
            omega)
          have HV5 : Hid (Out w2 w5 3 1 v5 js.length (nats js)) := hid (Out.since HI4.out.below ho5)
          have HI5 := hid (HI4.out.later ho5.below)
          have HG6 : Hid (MarksAt w2 w5 (w2.heap.size + 1) l.length (reach.mark s4 (js.take 0))) := hid (HG5.out.later ho5.below)
          obtain ⟨a5, c5, rfl⟩ := ho5.sl.val
          rw [show errVal 0 = .nilIface from rfl]
          clear ho5 hg1 HI4 HG5 hjs HNX
          go_wp2_with fail
          go_loopw [12] (fun i5 wr => ∃ k : Nat, k ≤ js.length ∧ i5 = .int .i64 k ∧ Hid (MarksAt w2 wr w2.heap.size l.length sI) ∧ Hid (MarksAt w2 wr (w2.heap.size + 1) l.length (reach.mark s4 (js.take k))) ∧ Hid (Out w2 wr 3 1 (.slice a5 js.length c5) js.length (nats js))) (fun i5 _ => js.length - (intOf i5).toNat)
          case atStart => exact ⟨0, Nat.zero_le _, rfl, HI5, HG6, HV5⟩
          case round =>
            obtain ⟨k, hkj, rfl, HI7, HG7, HV7⟩ := hrel
            clear HI5 HG6 HV5
            by_cases hkt : k < js.length
            · obtain ⟨bx, ox, hax, hcx⟩ := ints_read HV7.out.sl hkt
              subst hax
              have hkl2 := HSJ.out _ (List.getElem_mem hkt)
              have hin := HI7.out.read (HIN.out _ (List.getElem_mem hkt))
              obtain ⟨hm0, hm2, hm3⟩ := MarksAt.cells HG7.out (by rw [mark_len]; exact hl4) hkl2
              have HG8 := hid (show MarksAt w2 _ (w2.heap.size + 1) l.length (reach.mark s4 (js.take (k + 1))) from by rw [mark_take hkt]; exact hm3)
              have HI8 := hid (HG7.out.set_other (x := .bool true) HI7.out HAP.out.symm js[k])
              have HV8 := hid (HG7.out.set_other (x := .bool true) HV7.out HAV.out js[k])
              obtain ⟨B, hm1⟩ : ∃ B, wr.cell? ⟨w2.heap.size + 1, js[k], none⟩ = some (.bool B) := ⟨_, hm0⟩
              have hk0 : (0 : Int) ≤ (k : Int) := by omega
              have hkf : (k : Int) < (js.length : Int) := by omega
              clear hm0 hm3 HI7 HG7 HV7
              generalize js[k] = K2 at hkl2 hin hm1 hm2 HG8 HI8 HV8 hcx
              have hK0 : (0 : Int) ≤ (K2 : Int) := by omega
              have hKl : (K2 : Int) < (l.length : Int) := by omega
              go_wp2
              go_roundw
              case rel => exact ⟨k + 1, by omega, by go_num, HI8, HG8, HV8⟩
              case measure => simp [intOf]; omega
            · have HG8 : Hid (∃ s, Led l (rs.take (i + 1)) s ∧ MarksAt w2 wr (w2.heap.size + 1) l.length s) := hid ⟨_, HLS.out, by
                have := HG7.out
                rwa [List.take_of_length_le (by omega)] at this⟩
              clear HG7 HV7
              go_wp2
              go_roundw
              case rel => exact ⟨i + 1, by omega, by go_num, HI7, HG8⟩
              case measure => simp [intOf]; omega
        · obtain ⟨s4, hs4, hg4⟩ := HG4.out
          rw [List.take_of_length_le (by omega)] at hs4
          have HCL : Hid (∀ k, At sI k → At s4 k) := hid (fun k hk => HLE.out s4 hs4 k ((HMR.out k).1 hk))
          have HG5 := hid hg4
          have hl4 := hs4.1
          have HI5 := HI4
          clear HG4 hs4 hg4 HI4
          go_wp2_with fail
          go_loopw [13] (fun i6 wr6 => ∃ k : Nat, k ≤ l.length ∧ i6 = .int .i64 k ∧ wr = wr6) (fun i6 _ => l.length - (intOf i6).toNat)
          case atStart => exact ⟨0, Nat.zero_le _, rfl, rfl⟩
          case round =>
            obtain ⟨k, hkl, rfl, rfl⟩ := hrel
            by_cases hkt : k < l.length
            · have hk0 : (0 : Int) ≤ (k : Int) := by omega
              have hkf : (k : Int) < (l.length : Int) := by omega
              obtain ⟨hc1, _, _⟩ := MarksAt.cells HI5.out hlI hkt
              cases hB : sI[k]'(by omega) with
              | false =>
                rw [hB] at hc1
                clear hB
                go_wp2
                go_roundw
                case rel => exact ⟨k + 1, by omega, by go_num, by first | trivial | rfl⟩
                case measure => simp [intOf]; omega
              | true =>
                rw [hB] at hc1
                have hc2 := HG5.out.read (HCL.out k (by unfold At; rw [List.getElem?_eq_getElem (by omega), hB]))
                clear hB
                go_wp2
                go_roundw
                case rel => exact ⟨k + 1, by omega, by go_num, by first | trivial | rfl⟩
                case measure => simp [intOf]; omega
            · have hc0 := HI5.out.read ((HMR.out 0).2 (.base (List.mem_singleton.2 rfl)))
              have HBE := hid (HB2.out.trans (HI5.out.below.mono HB2.out.size))
              go_wp2
              go_ret
              exact ⟨rfl, HBE.out⟩

theorem closed_any (va : Value) (l : List I) (w : World) (ha : Go.Proofs.YtdnnnjedobknhaaDoor.flows.Code w va l) (hf : FormsAt w) (hs : ∀ x ∈ l, Small x) (hn : l.length ≤ 2000000) :
    Calls Tryd.prog 5 #[va] w fun e w' => e = .returned (.bool true) ∧ Below w.heap.size w w' := by
  by_cases hz : codeFault l = 0
  · exact closed_good va l w ha hf hs hn hz
  · exact closed_bad va l w ha hf hs hn hz

end Go.Proofs.YtdnnnjedobknhaaDoor.flows
