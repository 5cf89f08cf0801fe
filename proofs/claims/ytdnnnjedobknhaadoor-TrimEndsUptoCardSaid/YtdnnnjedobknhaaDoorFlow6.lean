/- What comes next: right code goes on inside; flow.Reach, flow.Next, the law's reached. Conditions as for flow.Check. -/
import Derived.Test.YtdnnnjedobknhaaDoorFlow5
namespace Go.Proofs.YtdnnnjedobknhaaDoor.flows
open Go.RowKit Go.Proofs.YtdnnnjedobknhaaDoor.lib Go.Proofs.YtdnnnjedobknhaaDoor.errs Go.Proofs.YtdnnnjedobknhaaDoor.names Go.Proofs.YtdnnnjedobknhaaDoor.descs Go.Proofs.YtdnnnjedobknhaaDoor.ins Go.Proofs.YtdnnnjedobknhaaDoor.reach

theorem bad_all : ∀ {l : List I}, badIns l = 0 → ∀ x ∈ l, insFault x = 0
  | [], _, x, hx => by cases hx
  | y :: l, h, x, hx => by
    unfold badIns at h
    by_cases hy : insFault y = 0
    · rw [if_pos hy] at h
      rcases List.mem_cons.1 hx with e | e
      · rw [e]; exact hy
      · exact bad_all h x e
    · rw [if_neg hy] at h; exact absurd h hy
theorem out_all {n : Nat} : ∀ {l : List I}, jumpsOut n l = false → ∀ x ∈ l, jumpsOp x.op = true → x.a < (n : Int)
  | [], _, x, hx => by cases hx
  | y :: l, h, x, hx => by
    unfold jumpsOut at h
    by_cases hy : jumpsOp y.op = true ∧ (n : Int) ≤ y.a
    · rw [if_pos hy] at h; cases h
    · rw [if_neg hy] at h
      rcases List.mem_cons.1 hx with e | e
      · rw [e]; intro hj
        exact Int.not_le.1 (fun h' => hy ⟨hj, h'⟩)
      · exact out_all h x e
theorem jump_ge {x : I} (h : insFault x = 0) (hj : jumpsOp x.op = true) : 0 ≤ x.a := by
  unfold insFault at h
  split at h
  · cases h
  · split at h
    · cases h
    · split at h
      · cases h
      · rename_i hr
        have hr' : rangedOk x = true := by simpa using hr
        have ho : x.op = 12 ∨ x.op = 13 ∨ x.op = 14 := by simpa [jumpsOp, or_assoc] using hj
        unfold rangedOk at hr'
        rw [if_neg (by omega), if_neg (by omega), if_neg (by omega), if_pos hj] at hr'
        have := of_decide_eq_true hr'
        exact this.1
theorem right_of {l : List I} (h : codeFault l = 0) : Right l ∧ 0 < l.length ∧ l.length ≤ 40 := by
  unfold codeFault at h
  by_cases h40 : 40 < l.length
  · rw [if_pos h40] at h; cases h
  · rw [if_neg h40] at h
    by_cases hb : badIns l = 0
    · rw [if_neg (by simp [hb])] at h
      cases hj : jumpsOut l.length l with
      | true => rw [if_pos hj] at h; cases h
      | false =>
        rw [if_neg (by rw [hj]; decide)] at h
        cases hE : lastEnds l with
        | false => rw [if_neg (by rw [hE]; decide)] at h; cases h
        | true =>
          have h0 : 0 < l.length := by
            cases l with
            | nil => cases hE
            | cons _ _ => simp
          refine ⟨fun k hk z hz => ?_, h0, by omega⟩
          have hx := List.getElem_mem hk
          unfold afterOf at hz
          rcases List.mem_append.1 hz with hz | hz
          · cases he : endsOp l[k].op with
            | true => rw [he, if_pos rfl] at hz; cases hz
            | false =>
              rw [he, if_neg (by decide)] at hz
              have := List.mem_singleton.1 hz
              have hne : k + 1 ≠ l.length := fun h => by
                have := last_at (l := l) (k := k) h.symm
                rw [hE, he] at this; cases this
              omega
          · split at hz
            · rename_i hc
              have := List.mem_singleton.1 hz
              have h1 := jump_ge (bad_all hb _ hx) hc.1
              have h2 := out_all hj _ hx hc.1
              omega
            · cases hz
    · rw [if_pos hb] at h; exact absurd h hb

/-- the marked places below k -/
def idxTo (s : List Bool) (k : Nat) : List Nat := (List.range k).filter fun i => decide (s[i]? = some true)
theorem idx_zero (s : List Bool) : idxTo s 0 = [] := rfl
theorem idx_yes {s : List Bool} {k : Nat} (h : s[k]? = some true) : idxTo s (k + 1) = idxTo s k ++ [k] := by
  unfold idxTo; rw [List.range_succ, List.filter_append]; simp [h]
theorem idx_no {s : List Bool} {k : Nat} (h : ¬ s[k]? = some true) : idxTo s (k + 1) = idxTo s k := by
  unfold idxTo; rw [List.range_succ, List.filter_append]; simp [h]
theorem idx_le (s : List Bool) (k : Nat) : (idxTo s k).length ≤ k := by
  have := List.length_filter_le (fun i => decide (s[i]? = some true)) (List.range k)
  rwa [List.length_range] at this
def reachOf (l : List I) : List Nat := idxTo (reached (succOf l) l.length [0]) l.length

/-- what flow.Reach answers -/
def ReachBy (w : World) (l : List I) (e : Ending) (w' : World) : Prop :=
  if codeFault l = 0 then ∃ v, e = .returned (.tuple #[v, .nilIface]) ∧ Out w w' 3 1 v (reachOf l).length (nats (reachOf l))
  else e = .returned (.tuple #[.slice none 0 0, .iface 34 (.int .i64 (codeFault l))]) ∧ Below w.heap.size w w'
theorem reachBy_no {w w' : World} {l : List I} (h : ¬ codeFault l = 0) (hb : Below w.heap.size w w') : ReachBy w l (.returned (.tuple #[.slice none 0 0, .iface 34 (.int .i64 (codeFault l))])) w' := by
  unfold ReachBy; rw [if_neg h]; exact ⟨rfl, hb⟩
theorem reachBy_yes {w w' : World} {l : List I} {v : Value} (h : codeFault l = 0) (ho : Out w w' 3 1 v (reachOf l).length (nats (reachOf l))) : ReachBy w l (.returned (.tuple #[v, .nilIface])) w' := by
  unfold ReachBy; rw [if_pos h]; exact ⟨v, rfl, ho⟩
theorem reachBy_bad {w w' : World} {l : List I} {e : Ending} (h : ¬ codeFault l = 0) (hr : ReachBy w l e w') : e = .returned (.tuple #[.slice none 0 0, .iface 34 (.int .i64 (codeFault l))]) ∧ Below w.heap.size w w' := by
  unfold ReachBy at hr; rwa [if_neg h] at hr
theorem reachBy_good {w w' : World} {l : List I} {e : Ending} (h : codeFault l = 0) (hr : ReachBy w l e w') : ∃ v, e = .returned (.tuple #[v, .nilIface]) ∧ Out w w' 3 1 v (reachOf l).length (nats (reachOf l)) := by
  unfold ReachBy at hr; rwa [if_pos h] at hr

theorem nats_one (k : Nat) : nats [k] = [.int .i64 (k : Int)] := rfl

set_option maxRecDepth 100000 in
set_option maxHeartbeats 4000000 in
theorem reach_any (va : Value) (l : List I) (w : World) (ha : Code w va l) (hf : FormsAt w) (hs : ∀ x ∈ l, Small x) (hn : l.length ≤ 1000000000000) :
    Calls Tryd.prog 23 #[va] w (ReachBy w l) := by
  have HC := hid (fcheck_any va l w ha hf hs hn)
  obtain ⟨a, c, rfl⟩ := ha.val
  have HA := hid ha
  clear ha hf hs
  by_cases h0 : codeFault l = 0
  · have HZ := hid h0
    have HE : Hid (errVal (codeFault l) = .nilIface) := hid (errVal_zero h0)
    obtain ⟨hR, hl0, hl40⟩ := right_of h0
    have HR := hid hR
    clear h0 hR
    go_enter Tryd.func23, Tryd.ntmps23
    go_wp2_with fail
    refine HC.out.mono ?_
    rintro e w1 ⟨rfl, hb1⟩
    rw [HE.out]
    have HB1 := hid hb1
    have HL := hid (Sl.lit w1 #[.int .i64 0] 3 1 1 rfl)
    have HBL := hid (hb1.alloc hb1.size (.cells #[.int .i64 0] 3))
    clear hb1
    go_wp2_with fail
    refine (from_any _ _ l [0] _ (HA.out.below HBL.out) HL.out HR.out (fun k hk => by rw [List.mem_singleton.1 hk]; exact hl0) (by omega) (by simp)).mono ?_
    rintro e w2 ⟨v, rfl, ho2⟩
    have HS := hid ho2.sl
    have HB2 := hid (HBL.out.trans (ho2.below.mono HBL.out.size))
    have HSL : Hid ((reached (succOf l) l.length [0]).length = l.length) := hid (reached_len (succ_lt HR.out))
    obtain ⟨s, hs⟩ : ∃ s, reached (succOf l) l.length [0] = s := ⟨_, rfl⟩
    have HSS := hid hs
    rw [hs] at HS HSL
    have hs2 := HS.out
    obtain ⟨a2, c2, rfl⟩ := ho2.sl.val
    clear hs ho2 hs2
    go_wp2_with fail
    go_loopw [5, 17] (fun vt i wr => ∃ k : Nat, k ≤ l.length ∧ i = .int .i64 k ∧ Hid (Out w2 wr 3 1 vt (idxTo s k).length (nats (idxTo s k)))) (fun _ i _ => l.length - (intOf i).toNat)
    case atStart => exact ⟨0, Nat.zero_le _, rfl, hid (Out.nil _ _ _)⟩
    case round =>
      obtain ⟨k, hk, rfl, HO⟩ := hrel
      by_cases hlt : k < l.length
      · have hks : k < s.length := by rw [HSL.out]; exact hlt
        obtain ⟨bx, ox, hax, u, hu, hcx⟩ := (HS.out.below HO.out.below).at1 hlt
        subst hax
        rw [bools_at hks] at hu
        obtain rfl := (Option.some.inj hu).symm
        have hi : (0 : Int) ≤ (k : Int) := by omega
        have hkl : (k : Int) < (l.length : Int) := by omega
        have hle := idx_le s k
        clear hu
        cases hB : s[k] with
        | true =>
          rw [hB] at hcx
          have HI := hid (idx_yes (s := s) (k := k) (by rw [List.getElem?_eq_getElem hks, hB]))
          clear hB
          go_wp2_with (at_builtin; refine wpList_append_lit w2 wr _ rfl _ _ 26 rfl 3 (.int .i64 0) 1 8 1 Tryd.underlying26 infoInt rfl (by decide) _ _ _ HO.out rfl rfl rfl ?_ ?_ ?_ ?_)
          all_goals first | (intro v' w' ho hg) | omega | (simp [Value.oneCell']; done) | skip
          have HO2 := hid ho
          clear ho hg
          go_wp2
          go_roundw
          case rel => exact ⟨k + 1, by omega, by go_num, hid (by rw [HI.out, List.length_append, nats_append]; exact HO2.out)⟩
          case measure => simp [intOf]; omega
        | false =>
          rw [hB] at hcx
          have HI := hid (idx_no (s := s) (k := k) (by rw [List.getElem?_eq_getElem hks, hB]; simp))
          obtain ⟨at1, ct1, rfl⟩ := HO.out.sl.val
          clear hB
          go_wp2
          go_roundw
          case rel => exact ⟨k + 1, by omega, by go_num, hid (by rw [HI.out]; exact HO.out)⟩
          case measure => simp [intOf]; omega
      · obtain rfl : k = l.length := by omega
        have HX := hid (Out.since HB2.out HO.out)
        obtain ⟨at1, ct1, rfl⟩ := HO.out.sl.val
        clear HO
        go_wp2
        go_ret2
        refine reachBy_yes HZ.out ?_
        unfold reachOf
        rw [HSS.out]
        exact HX.out
  · have HZ := hid h0
    have HE : Hid (errVal (codeFault l) = .iface 34 (.int .i64 (codeFault l))) := hid (errVal_ne h0)
    clear h0
    go_enter Tryd.func23, Tryd.ntmps23
    go_wp2_with fail
    refine HC.out.mono ?_
    rintro e w1 ⟨rfl, hb1⟩
    rw [HE.out]
    go_wp2
    go_ret2
    exact reachBy_no HZ.out hb1

/-- what flow.Next answers -/
def nextFault (l : List I) (n : Int) : Int := if codeFault l = 0 then (if n < 0 ∨ (l.length : Int) ≤ n then 2 else 0) else codeFault l
def nextOf (l : List I) (n : Int) : List Int := if nextFault l n = 0 then (match l[n.toNat]? with | none => [] | some x => afterOf x n.toNat) else []
def NextBy (w : World) (l : List I) (n : Int) (e : Ending) (w' : World) : Prop :=
  ∃ v, e = .returned (.tuple #[v, errVal (nextFault l n)]) ∧ Out w w' 3 1 v (nextOf l n).length ((nextOf l n).map (.int .i64))

set_option maxRecDepth 100000 in
set_option maxHeartbeats 2000000 in
theorem next_any (va : Value) (l : List I) (n : Int) (w : World) (ha : Code w va l) (hf : FormsAt w) (hs : ∀ x ∈ l, Small x) (hn : l.length ≤ 1000000000000) :
    Calls Tryd.prog 24 #[va, .int .i64 n] w (NextBy w l n) := by
  have HC := hid (fcheck_any va l w ha hf hs hn)
  obtain ⟨a, c, rfl⟩ := ha.val
  have HA := hid ha
  clear ha hf hs
  by_cases h0 : codeFault l = 0
  · have HE : Hid (errVal (codeFault l) = .nilIface) := hid (errVal_zero h0)
    by_cases hr : n < 0 ∨ (l.length : Int) ≤ n
    · have hN : nextFault l n = 2 := by unfold nextFault; rw [if_pos h0, if_pos hr]
      have HN := hid hN
      have HO : Hid (nextOf l n = []) := hid (by unfold nextOf; rw [if_neg (by rw [hN]; decide)])
      clear h0 hN
      by_cases h1 : n < 0
      · clear hr
        go_enter Tryd.func24, Tryd.ntmps24
        go_wp2_with fail
        refine HC.out.mono ?_
        rintro e w1 ⟨rfl, hb1⟩
        rw [HE.out]
        go_wp2
        go_ret2
        exact ⟨_, by rw [HN.out]; rfl, by rw [HO.out]; exact Out.nil_at hb1 _ _⟩
      · have h2 : (l.length : Int) ≤ n := by omega
        clear hr
        go_enter Tryd.func24, Tryd.ntmps24
        go_wp2_with fail
        refine HC.out.mono ?_
        rintro e w1 ⟨rfl, hb1⟩
        rw [HE.out]
        go_wp2
        go_ret2
        exact ⟨_, by rw [HN.out]; rfl, by rw [HO.out]; exact Out.nil_at hb1 _ _⟩
    · have hN : nextFault l n = 0 := by unfold nextFault; rw [if_pos h0, if_neg hr]
      have HN := hid hN
      obtain ⟨k, rfl⟩ : ∃ k : Nat, n = (k : Int) := ⟨n.toNat, by omega⟩
      have hk : k < l.length := by omega
      have HO : Hid (nextOf l (k : Int) = afterOf l[k] k) := hid (by unfold nextOf; rw [if_pos hN, Int.toNat_natCast, List.getElem?_eq_getElem hk])
      have h1 : ¬ (k : Int) < 0 := by omega
      have h2 : ¬ (l.length : Int) ≤ (k : Int) := by omega
      clear h0 hN hr
      go_enter Tryd.func24, Tryd.ntmps24
      go_wp2_with fail
      refine HC.out.mono ?_
      rintro e w1 ⟨rfl, hb1⟩
      rw [HE.out]
      have HB1 := hid hb1
      clear hb1
      go_wp2_with fail
      refine (after_any _ l k _ (HA.out.below HB1.out) hk hn).mono ?_
      rintro e w2 ⟨v, rfl, ho⟩
      have HX := hid (Out.since HB1.out ho)
      obtain ⟨a2, c2, rfl⟩ := ho.sl.val
      clear ho
      go_wp2
      go_ret2
      exact ⟨_, by rw [HN.out]; rfl, by rw [HO.out]; exact HX.out⟩
  · have HN : Hid (nextFault l n = codeFault l) := hid (by unfold nextFault; rw [if_neg h0])
    have HO : Hid (nextOf l n = []) := hid (by unfold nextOf; rw [if_neg (by unfold nextFault; rw [if_neg h0]; exact h0)])
    have HE : Hid (errVal (codeFault l) = .iface 34 (.int .i64 (codeFault l))) := hid (errVal_ne h0)
    clear h0
    go_enter Tryd.func24, Tryd.ntmps24
    go_wp2_with fail
    refine HC.out.mono ?_
    rintro e w1 ⟨rfl, hb1⟩
    rw [HE.out]
    go_wp2
    go_ret2
    exact ⟨_, by rw [HN.out, HE.out]; rfl, by rw [HO.out]; exact Out.nil_at hb1 _ _⟩

end Go.Proofs.YtdnnnjedobknhaaDoor.flows
