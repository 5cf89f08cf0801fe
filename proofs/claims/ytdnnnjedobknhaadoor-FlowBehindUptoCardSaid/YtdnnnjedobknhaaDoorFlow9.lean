/- The law FlowBehind: its walk. Conditions: the table lies in its variable; the texts and the codes are not long. -/
import Derived.Test.YtdnnnjedobknhaaDoorFlow8
namespace Go.Proofs.YtdnnnjedobknhaaDoor.flows
open Go.RowKit Go.Proofs.YtdnnnjedobknhaaDoor.lib Go.Proofs.YtdnnnjedobknhaaDoor.errs Go.Proofs.YtdnnnjedobknhaaDoor.names Go.Proofs.YtdnnnjedobknhaaDoor.descs Go.Proofs.YtdnnnjedobknhaaDoor.ins Go.Proofs.YtdnnnjedobknhaaDoor.reach Go.Proofs.YtdnnnjedobknhaaDoor.ints

theorem succ_behind {l m : List I} {k : Nat} (hk : k < l.length) : succOf (l ++ m) k = succOf l k := by
  unfold succOf; rw [List.getElem?_append_left hk]
theorem come_behind {l m : List I} (hR : Right l) (h0 : 0 < l.length) {k : Nat} : Come (succOf (l ++ m)) [0] k ↔ Come (succOf l) [0] k := by
  have hf : ∀ k ∈ [0], k < l.length := fun k hk => by rw [List.mem_singleton.1 hk]; exact h0
  constructor
  · intro h
    induction h with
    | base h => exact .base h
    | step h1 hj ih =>
      have := come_lt (succ_lt hR) hf ih
      rw [succ_behind this] at hj
      exact .step ih hj
  · intro h
    induction h with
    | base h => exact .base h
    | step h1 hj ih =>
      have := come_lt (succ_lt hR) hf h1
      rw [← succ_behind (m := m) this] at hj
      exact .step ih hj
theorem idx_more {s : List Bool} {n : Nat} (h : ∀ k, n ≤ k → ¬ s[k]? = some true) : ∀ j, idxTo s (n + j) = idxTo s n
  | 0 => rfl
  | j + 1 => by rw [← Nat.add_assoc, idx_no (h _ (by omega)), idx_more h j]
theorem reach_behind {l m : List I} (h1 : codeFault l = 0) (h2 : codeFault (l ++ m) = 0) : reachOf (l ++ m) = reachOf l := by
  obtain ⟨hR, h0, _⟩ := right_of h1
  obtain ⟨hR2, h02, _⟩ := right_of h2
  have hf : ∀ k ∈ [0], k < l.length := fun k hk => by rw [List.mem_singleton.1 hk]; exact h0
  have hf2 : ∀ k ∈ [0], k < (l ++ m).length := fun k hk => by rw [List.mem_singleton.1 hk]; exact h02
  have key : ∀ k, At (reached (succOf (l ++ m)) (l ++ m).length [0]) k ↔ At (reached (succOf l) l.length [0]) k := fun k => by
    rw [reached_at (succ_lt hR2) hf2, reached_at (succ_lt hR) hf, come_behind hR h0]
  unfold reachOf
  rw [List.length_append, idx_more]
  · unfold idxTo
    apply List.filter_congr
    intro i _
    have h := key i
    unfold At at h
    rw [List.length_append] at h
    exact decide_eq_decide.2 h
  · intro k hk hs
    have h := (key k).1 (by unfold At; rw [List.length_append]; exact hs)
    have := h.lt
    rw [reached_len (succ_lt hR)] at this
    omega

theorem infoIns : (Tryd.prog.info? 53).map (fun i => (i.zero, i.size, i.bytes)) = some (some (.agg #[.int .i64 0, .int .i64 0, .int .i64 0, .string { data := #[] }, .string { data := #[] }, .string { data := #[] }]), 6, 72) := by kernel_rfl
theorem one_cells (l : List I) : ∀ u ∈ cellsOf l, u.oneCell' = true := fun u hu => by
  obtain ⟨x, _, hx⟩ := List.mem_flatMap.1 hu
  simp only [I.cells, List.mem_cons, List.not_mem_nil, or_false] at hx
  rcases hx with rfl | rfl | rfl | rfl | rfl | rfl <;> rfl
theorem code_of {w : World} {v : Value} {l m : List I} (h : Sl w v (l.length + m.length) 6 (cellsOf l ++ cellsOf m)) : Go.Proofs.YtdnnnjedobknhaaDoor.flows.Code w v (l ++ m) := by
  unfold Go.Proofs.YtdnnnjedobknhaaDoor.flows.Code
  rw [List.length_append, cellsOf, List.flatMap_append]; exact h

set_option maxRecDepth 100000 in
set_option maxHeartbeats 4000000 in
theorem behind_bb (a a2 : Option Addr) (c c2 : Nat) (l m : List I) (w : World) (ha : Go.Proofs.YtdnnnjedobknhaaDoor.flows.Code w (.slice a l.length c) l) (hm : Go.Proofs.YtdnnnjedobknhaaDoor.flows.Code w (.slice a2 m.length c2) m) (hf : FormsAt w) (hs : ∀ x ∈ l, Small x) (hsm : ∀ x ∈ m, Small x) (hn : l.length ≤ 2000000) (hn2 : m.length ≤ 2000000) (h1 : ¬ codeFault l = 0) (h2 : ¬ codeFault (l ++ m) = 0) :
    Calls Tryd.prog 6 #[.slice a l.length c, .slice a2 m.length c2] w fun e w' => e = .returned (.bool true) ∧ Below w.heap.size w w' := by
  have hll : (l ++ m).length = l.length + m.length := List.length_append
  have HFL := hid (fun w hf => flowing_any w hf)
  have HC3 := hid (fun (w : World) (ha : Go.Proofs.YtdnnnjedobknhaaDoor.flows.Code w (.slice a l.length c) l) (hf : FormsAt w) => reach_any _ l w ha hf hs (by omega))
  have HC4 := hid (fun (w : World) (v : Value) (ha : Go.Proofs.YtdnnnjedobknhaaDoor.flows.Code w v (l ++ m)) (hf : FormsAt w) => reach_any v (l ++ m) w ha hf (fun x hx => (List.mem_append.1 hx).elim (hs x) (hsm x)) (by omega))
  have HA := hid ha; have HM := hid hm; have HF := hid hf
  have HL := hid hll
  have O1 := hid (one_cells l); have O2 := hid (one_cells m)
  have hs1 : (0 + l.length) * 72 ≤ 140737488355328 := by omega
  have hs2 : (l.length + m.length) * 72 ≤ 140737488355328 := by omega
  have HZ1 := hid h1; have HZ2 := hid h2
  clear h1 h2
  clear ha hm hf hs hsm hll
  go_enter Tryd.func6, Tryd.ntmps6
  go_wp2_with fail
  refine (HFL.out _ HF.out).mono ?_
  rintro e w1 ⟨rfl, hb1⟩
  have HB1 := hid hb1
  clear hb1
  go_wp2_with fail
  refine (HC3.out _ (HA.out.below HB1.out) (HF.out.below HB1.out)).mono ?_
  intro e w2 h2
  obtain ⟨rfl, hb2⟩ := reachBy_bad HZ1.out h2
  clear h2
  have HB2 := hid (HB1.out.trans (hb2.mono HB1.out.size))
  clear hb2
  have HMD := hid (Out.made w2 53 6)
  have HA2 := hid ((HA.out.below HB2.out).below HMD.out.below)
  go_wp2_with (at_builtin; refine wpList_append_src w2 _ rfl _ _ 33 rfl 53 _ 6 72 l.length Tryd.underlying33 infoIns rfl (by decide) _ _ _ HMD.out rfl _ _ HA2.out rfl O1.out hs1 ?_ ?_)
  all_goals first | (intro v3 w3 ho3 hg3) | omega | skip
  have HO3 := hid (show Out w2 w3 53 6 v3 l.length (cellsOf l) from by simpa using ho3)
  have HM3 := hid ((HM.out.below HB2.out).below HO3.out.below)
  clear ho3 hg3
  go_wp2_with (at_builtin; refine wpList_append_src w2 _ rfl _ _ 33 rfl 53 _ 6 72 m.length Tryd.underlying33 infoIns rfl (by decide) _ _ _ HO3.out rfl _ _ HM3.out rfl O2.out hs2 ?_ ?_)
  all_goals first | (intro v4 w4 ho4 hg4) | omega | skip
  have HCO := hid (code_of ho4.sl)
  have HB4 := hid (HB2.out.trans (ho4.below.mono HB2.out.size))
  clear ho4 hg4
  go_wp2_with fail
  refine (HC4.out _ _ HCO.out (HF.out.below HB4.out)).mono ?_
  intro e w5 h5
  obtain ⟨rfl, hb5⟩ := reachBy_bad HZ2.out h5
  clear h5
  go_wp2
  go_ret
  exact ⟨rfl, HB4.out.trans (hb5.mono HB4.out.size)⟩

set_option maxRecDepth 100000 in
set_option maxHeartbeats 4000000 in
theorem behind_bg (a a2 : Option Addr) (c c2 : Nat) (l m : List I) (w : World) (ha : Go.Proofs.YtdnnnjedobknhaaDoor.flows.Code w (.slice a l.length c) l) (hm : Go.Proofs.YtdnnnjedobknhaaDoor.flows.Code w (.slice a2 m.length c2) m) (hf : FormsAt w) (hs : ∀ x ∈ l, Small x) (hsm : ∀ x ∈ m, Small x) (hn : l.length ≤ 2000000) (hn2 : m.length ≤ 2000000) (h1 : ¬ codeFault l = 0) (h2 : codeFault (l ++ m) = 0) :
    Calls Tryd.prog 6 #[.slice a l.length c, .slice a2 m.length c2] w fun e w' => e = .returned (.bool true) ∧ Below w.heap.size w w' := by
  have hll : (l ++ m).length = l.length + m.length := List.length_append
  have HFL := hid (fun w hf => flowing_any w hf)
  have HC3 := hid (fun (w : World) (ha : Go.Proofs.YtdnnnjedobknhaaDoor.flows.Code w (.slice a l.length c) l) (hf : FormsAt w) => reach_any _ l w ha hf hs (by omega))
  have HC4 := hid (fun (w : World) (v : Value) (ha : Go.Proofs.YtdnnnjedobknhaaDoor.flows.Code w v (l ++ m)) (hf : FormsAt w) => reach_any v (l ++ m) w ha hf (fun x hx => (List.mem_append.1 hx).elim (hs x) (hsm x)) (by omega))
  have HA := hid ha; have HM := hid hm; have HF := hid hf
  have HL := hid hll
  have O1 := hid (one_cells l); have O2 := hid (one_cells m)
  have hs1 : (0 + l.length) * 72 ≤ 140737488355328 := by omega
  have hs2 : (l.length + m.length) * 72 ≤ 140737488355328 := by omega
  have HZ1 := hid h1; have HZ2 := hid h2
  clear h1 h2
  clear ha hm hf hs hsm hll
  go_enter Tryd.func6, Tryd.ntmps6
  go_wp2_with fail
  refine (HFL.out _ HF.out).mono ?_
  rintro e w1 ⟨rfl, hb1⟩
  have HB1 := hid hb1
  clear hb1
  go_wp2_with fail
  refine (HC3.out _ (HA.out.below HB1.out) (HF.out.below HB1.out)).mono ?_
  intro e w2 h2
  obtain ⟨rfl, hb2⟩ := reachBy_bad HZ1.out h2
  clear h2
  have HB2 := hid (HB1.out.trans (hb2.mono HB1.out.size))
  clear hb2
  have HMD := hid (Out.made w2 53 6)
  have HA2 := hid ((HA.out.below HB2.out).below HMD.out.below)
  go_wp2_with (at_builtin; refine wpList_append_src w2 _ rfl _ _ 33 rfl 53 _ 6 72 l.length Tryd.underlying33 infoIns rfl (by decide) _ _ _ HMD.out rfl _ _ HA2.out rfl O1.out hs1 ?_ ?_)
  all_goals first | (intro v3 w3 ho3 hg3) | omega | skip
  have HO3 := hid (show Out w2 w3 53 6 v3 l.length (cellsOf l) from by simpa using ho3)
  have HM3 := hid ((HM.out.below HB2.out).below HO3.out.below)
  clear ho3 hg3
  go_wp2_with (at_builtin; refine wpList_append_src w2 _ rfl _ _ 33 rfl 53 _ 6 72 m.length Tryd.underlying33 infoIns rfl (by decide) _ _ _ HO3.out rfl _ _ HM3.out rfl O2.out hs2 ?_ ?_)
  all_goals first | (intro v4 w4 ho4 hg4) | omega | skip
  have HCO := hid (code_of ho4.sl)
  have HB4 := hid (HB2.out.trans (ho4.below.mono HB2.out.size))
  clear ho4 hg4
  go_wp2_with fail
  refine (HC4.out _ _ HCO.out (HF.out.below HB4.out)).mono ?_
  intro e w5 h5
  obtain ⟨v5, rfl, ho5⟩ := reachBy_good HZ2.out h5
  clear h5
  have HB5 := hid (HB4.out.trans (ho5.below.mono HB4.out.size))
  obtain ⟨a5, c5, rfl⟩ := ho5.sl.val
  clear ho5
  go_wp2
  go_ret
  exact ⟨rfl, HB5.out⟩

set_option maxRecDepth 100000 in
set_option maxHeartbeats 4000000 in
theorem behind_gb (a a2 : Option Addr) (c c2 : Nat) (l m : List I) (w : World) (ha : Go.Proofs.YtdnnnjedobknhaaDoor.flows.Code w (.slice a l.length c) l) (hm : Go.Proofs.YtdnnnjedobknhaaDoor.flows.Code w (.slice a2 m.length c2) m) (hf : FormsAt w) (hs : ∀ x ∈ l, Small x) (hsm : ∀ x ∈ m, Small x) (hn : l.length ≤ 2000000) (hn2 : m.length ≤ 2000000) (h1 : codeFault l = 0) (h2 : ¬ codeFault (l ++ m) = 0) :
    Calls Tryd.prog 6 #[.slice a l.length c, .slice a2 m.length c2] w fun e w' => e = .returned (.bool true) ∧ Below w.heap.size w w' := by
  have hll : (l ++ m).length = l.length + m.length := List.length_append
  have HFL := hid (fun w hf => flowing_any w hf)
  have HC3 := hid (fun (w : World) (ha : Go.Proofs.YtdnnnjedobknhaaDoor.flows.Code w (.slice a l.length c) l) (hf : FormsAt w) => reach_any _ l w ha hf hs (by omega))
  have HC4 := hid (fun (w : World) (v : Value) (ha : Go.Proofs.YtdnnnjedobknhaaDoor.flows.Code w v (l ++ m)) (hf : FormsAt w) => reach_any v (l ++ m) w ha hf (fun x hx => (List.mem_append.1 hx).elim (hs x) (hsm x)) (by omega))
  have HA := hid ha; have HM := hid hm; have HF := hid hf
  have HL := hid hll
  have O1 := hid (one_cells l); have O2 := hid (one_cells m)
  have hs1 : (0 + l.length) * 72 ≤ 140737488355328 := by omega
  have hs2 : (l.length + m.length) * 72 ≤ 140737488355328 := by omega
  have HZ1 := hid h1; have HZ2 := hid h2
  clear h1 h2
  clear ha hm hf hs hsm hll
  go_enter Tryd.func6, Tryd.ntmps6
  go_wp2_with fail
  refine (HFL.out _ HF.out).mono ?_
  rintro e w1 ⟨rfl, hb1⟩
  have HB1 := hid hb1
  clear hb1
  go_wp2_with fail
  refine (HC3.out _ (HA.out.below HB1.out) (HF.out.below HB1.out)).mono ?_
  intro e w2 h2
  obtain ⟨v2, rfl, ho2⟩ := reachBy_good HZ1.out h2
  clear h2
  have HB2 := hid (HB1.out.trans (ho2.below.mono HB1.out.size))
  have HR2 := hid ho2.sl
  obtain ⟨a3, c3, rfl⟩ := ho2.sl.val
  clear ho2
  have HMD := hid (Out.made w2 53 6)
  have HA2 := hid ((HA.out.below HB2.out).below HMD.out.below)
  go_wp2_with (at_builtin; refine wpList_append_src w2 _ rfl _ _ 33 rfl 53 _ 6 72 l.length Tryd.underlying33 infoIns rfl (by decide) _ _ _ HMD.out rfl _ _ HA2.out rfl O1.out hs1 ?_ ?_)
  all_goals first | (intro v3 w3 ho3 hg3) | omega | skip
  have HO3 := hid (show Out w2 w3 53 6 v3 l.length (cellsOf l) from by simpa using ho3)
  have HM3 := hid ((HM.out.below HB2.out).below HO3.out.below)
  clear ho3 hg3
  go_wp2_with (at_builtin; refine wpList_append_src w2 _ rfl _ _ 33 rfl 53 _ 6 72 m.length Tryd.underlying33 infoIns rfl (by decide) _ _ _ HO3.out rfl _ _ HM3.out rfl O2.out hs2 ?_ ?_)
  all_goals first | (intro v4 w4 ho4 hg4) | omega | skip
  have HCO := hid (code_of ho4.sl)
  have HB4 := hid (HB2.out.trans (ho4.below.mono HB2.out.size))
  clear ho4 hg4
  go_wp2_with fail
  refine (HC4.out _ _ HCO.out (HF.out.below HB4.out)).mono ?_
  intro e w5 h5
  obtain ⟨rfl, hb5⟩ := reachBy_bad HZ2.out h5
  clear h5
  go_wp2
  go_ret
  exact ⟨rfl, HB4.out.trans (hb5.mono HB4.out.size)⟩

set_option maxRecDepth 100000 in
set_option maxHeartbeats 4000000 in
theorem behind_gg (a a2 : Option Addr) (c c2 : Nat) (l m : List I) (w : World) (ha : Go.Proofs.YtdnnnjedobknhaaDoor.flows.Code w (.slice a l.length c) l) (hm : Go.Proofs.YtdnnnjedobknhaaDoor.flows.Code w (.slice a2 m.length c2) m) (hf : FormsAt w) (hs : ∀ x ∈ l, Small x) (hsm : ∀ x ∈ m, Small x) (hn : l.length ≤ 2000000) (hn2 : m.length ≤ 2000000) (h1 : codeFault l = 0) (h2 : codeFault (l ++ m) = 0) :
    Calls Tryd.prog 6 #[.slice a l.length c, .slice a2 m.length c2] w fun e w' => e = .returned (.bool true) ∧ Below w.heap.size w w' := by
  have hll : (l ++ m).length = l.length + m.length := List.length_append
  have HFL := hid (fun w hf => flowing_any w hf)
  have HC3 := hid (fun (w : World) (ha : Go.Proofs.YtdnnnjedobknhaaDoor.flows.Code w (.slice a l.length c) l) (hf : FormsAt w) => reach_any _ l w ha hf hs (by omega))
  have HC4 := hid (fun (w : World) (v : Value) (ha : Go.Proofs.YtdnnnjedobknhaaDoor.flows.Code w v (l ++ m)) (hf : FormsAt w) => reach_any v (l ++ m) w ha hf (fun x hx => (List.mem_append.1 hx).elim (hs x) (hsm x)) (by omega))
  have HA := hid ha; have HM := hid hm; have HF := hid hf
  have HL := hid hll
  have O1 := hid (one_cells l); have O2 := hid (one_cells m)
  have hs1 : (0 + l.length) * 72 ≤ 140737488355328 := by omega
  have hs2 : (l.length + m.length) * 72 ≤ 140737488355328 := by omega
  have HZ1 := hid h1; have HZ2 := hid h2
  have HEQ := hid (reach_behind h1 h2)
  clear h1 h2
  clear ha hm hf hs hsm hll
  go_enter Tryd.func6, Tryd.ntmps6
  go_wp2_with fail
  refine (HFL.out _ HF.out).mono ?_
  rintro e w1 ⟨rfl, hb1⟩
  have HB1 := hid hb1
  clear hb1
  go_wp2_with fail
  refine (HC3.out _ (HA.out.below HB1.out) (HF.out.below HB1.out)).mono ?_
  intro e w2 h2
  obtain ⟨v2, rfl, ho2⟩ := reachBy_good HZ1.out h2
  clear h2
  have HB2 := hid (HB1.out.trans (ho2.below.mono HB1.out.size))
  have HR2 := hid ho2.sl
  obtain ⟨a3, c3, rfl⟩ := ho2.sl.val
  clear ho2
  have HMD := hid (Out.made w2 53 6)
  have HA2 := hid ((HA.out.below HB2.out).below HMD.out.below)
  go_wp2_with (at_builtin; refine wpList_append_src w2 _ rfl _ _ 33 rfl 53 _ 6 72 l.length Tryd.underlying33 infoIns rfl (by decide) _ _ _ HMD.out rfl _ _ HA2.out rfl O1.out hs1 ?_ ?_)
  all_goals first | (intro v3 w3 ho3 hg3) | omega | skip
  have HO3 := hid (show Out w2 w3 53 6 v3 l.length (cellsOf l) from by simpa using ho3)
  have HM3 := hid ((HM.out.below HB2.out).below HO3.out.below)
  clear ho3 hg3
  go_wp2_with (at_builtin; refine wpList_append_src w2 _ rfl _ _ 33 rfl 53 _ 6 72 m.length Tryd.underlying33 infoIns rfl (by decide) _ _ _ HO3.out rfl _ _ HM3.out rfl O2.out hs2 ?_ ?_)
  all_goals first | (intro v4 w4 ho4 hg4) | omega | skip
  have HCO := hid (code_of ho4.sl)
  have HB4 := hid (HB2.out.trans (ho4.below.mono HB2.out.size))
  have HR4 := hid (HR2.out.below ho4.below)
  clear ho4 hg4
  go_wp2_with fail
  refine (HC4.out _ _ HCO.out (HF.out.below HB4.out)).mono ?_
  intro e w5 h5
  obtain ⟨v5, rfl, ho5⟩ := reachBy_good HZ2.out h5
  clear h5
  have HB5 := hid (HB4.out.trans (ho5.below.mono HB4.out.size))
  have HS5 := hid ho5.sl
  have HS25 := hid (HR4.out.below ho5.below)
  obtain ⟨a5, c5, rfl⟩ := ho5.sl.val
  rw [HEQ.out] at HS5 ⊢
  clear ho5
  go_wp2_with fail
  refine (ints_any _ _ ((reachOf l).map fun j : Nat => (j : Int)) ((reachOf l).map fun j : Nat => (j : Int)) _ (by rw [List.length_map]; exact HS25.out) (by rw [List.length_map]; exact HS5.out) (by rw [List.length_map]; have := idx_le (reached (succOf l) l.length [0]) l.length; unfold reachOf; omega)).mono ?_
  rintro e w6 ⟨rfl, hb6⟩
  rw [show decide (((reachOf l).map fun j : Nat => (j : Int)) = (reachOf l).map fun j : Nat => (j : Int)) = true from by simp]
  go_wp2
  go_ret
  exact ⟨rfl, HB5.out.trans (hb6.mono HB5.out.size)⟩

theorem behind_any (va vm : Value) (l m : List I) (w : World) (ha : Go.Proofs.YtdnnnjedobknhaaDoor.flows.Code w va l) (hm : Go.Proofs.YtdnnnjedobknhaaDoor.flows.Code w vm m) (hf : FormsAt w) (hs : ∀ x ∈ l, Small x) (hsm : ∀ x ∈ m, Small x) (hn : l.length ≤ 2000000) (hn2 : m.length ≤ 2000000) :
    Calls Tryd.prog 6 #[va, vm] w fun e w' => e = .returned (.bool true) ∧ Below w.heap.size w w' := by
  obtain ⟨a, c, rfl⟩ := ha.val
  obtain ⟨a2, c2, rfl⟩ := hm.val
  by_cases h1 : codeFault l = 0
  · by_cases h2 : codeFault (l ++ m) = 0
    · exact behind_gg a a2 c c2 l m w ha hm hf hs hsm hn hn2 h1 h2
    · exact behind_gb a a2 c c2 l m w ha hm hf hs hsm hn hn2 h1 h2
  · by_cases h2 : codeFault (l ++ m) = 0
    · exact behind_bg a a2 c c2 l m w ha hm hf hs hsm hn hn2 h1 h2
    · exact behind_bb a a2 c c2 l m w ha hm hf hs hsm hn hn2 h1 h2

end Go.Proofs.YtdnnnjedobknhaaDoor.flows
