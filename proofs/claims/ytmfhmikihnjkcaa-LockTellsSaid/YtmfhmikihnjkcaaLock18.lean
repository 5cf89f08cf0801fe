/- Locks: the reference's Leave, where it is the last time. Condition: not many calls came before. -/
import Derived.Test.YtmfhmikihnjkcaaLock17
namespace Go.Proofs.Ytmfhmikihnjkcaa.locks
open Go.RowKit Go.Proofs.Ytmfhmikihnjkcaa.lib Go.Proofs.Ytmfhmikihnjkcaa.maps Go.Proofs.Ytmfhmikihnjkcaa.errs

theorem one_wq (l : List (Int × Int)) : ∀ u ∈ wcells l, u.oneCell' = true := fun u hu => by
  obtain ⟨q, _, hq⟩ := List.mem_flatMap.1 hu
  simp only [wq, List.mem_cons, List.not_mem_nil, or_false] at hq
  rcases hq with rfl | rfl <;> rfl
theorem wcells_take (l : List (Int × Int)) (i : Nat) : (wcells l).take (i * 2) = wcells (l.take i) := by
  induction l generalizing i with
  | nil => simp [wcells]
  | cons q l ih =>
    cases i with
    | zero => simp [wcells]
    | succ i =>
      rw [List.take_succ_cons, wcells, List.flatMap_cons, show (i + 1) * 2 = i * 2 + 2 by omega]
      have := ih i
      rw [wcells] at this
      show (.int .i64 q.1 :: .int .i64 q.2 :: l.flatMap wq).take (i * 2 + 2) = _
      rw [List.take_succ_cons, List.take_succ_cons, this]
      rfl
theorem wcells_drop (l : List (Int × Int)) (i : Nat) : (wcells l).drop (i * 2) = wcells (l.drop i) := by
  induction l generalizing i with
  | nil => simp [wcells]
  | cons q l ih =>
    cases i with
    | zero => simp [wcells]
    | succ i =>
      rw [List.drop_succ_cons, wcells, List.flatMap_cons, show (i + 1) * 2 = i * 2 + 2 by omega]
      have := ih i
      rw [wcells] at this
      show (.int .i64 q.1 :: .int .i64 q.2 :: l.flatMap wq).drop (i * 2 + 2) = _
      rw [List.drop_succ_cons, List.drop_succ_cons, this]

theorem upd_upd (f : Int → Int) (k u v : Int) : upd (upd f k u) k v = upd f k v := by
  funext j; unfold upd; split <;> rfl
theorem RL.setWho {w : World} {base q gw gt : Nat} {vw : Value} {A : St} (h : RL w base q gw gt vw A) {kk : Nat} (hkk : kk < 50) (v : Int) :
    RL (w.setCell ⟨gw, kk, none⟩ (.int .i64 v)) base q gw gt vw { A with who := upd A.who (kk : Int) v } ∧ Keeps (RF q gw gt vw) w (w.setCell ⟨gw, kk, none⟩ (.int .i64 v)) := by
  have hK := Keeps.set w gw kk (.int .i64 v)
  refine ⟨⟨h.lo, h.ne, h.vne, ?_, h.who.set hkk _, ?_, ?_⟩, hK.mono fun g _ e => .inr (.inl e)⟩
  · rw [hK.block q (h.lt (.inl rfl)).2 h.ne.1]; exact h.top
  · exact h.times.keep (hK.block gt h.times.lt (fun e => h.ne.2.2 e.symm))
  · exact ownsRow_keep h.row fun g hg => hK.block g (h.row.lt g hg).2 (h.vne g hg).2.1
theorem RL.setTimes {w : World} {base q gw gt : Nat} {vw : Value} {A : St} (h : RL w base q gw gt vw A) {kk : Nat} (hkk : kk < 50) (v : Int) :
    RL (w.setCell ⟨gt, kk, none⟩ (.int .i64 v)) base q gw gt vw { A with times := upd A.times (kk : Int) v } ∧ Keeps (RF q gw gt vw) w (w.setCell ⟨gt, kk, none⟩ (.int .i64 v)) := by
  have hK := Keeps.set w gt kk (.int .i64 v)
  refine ⟨⟨h.lo, h.ne, h.vne, ?_, ?_, h.times.set hkk _, ?_⟩, hK.mono fun g _ e => .inr (.inr (.inl e))⟩
  · rw [hK.block q (h.lt (.inl rfl)).2 h.ne.2.1]; exact h.top
  · exact h.who.keep (hK.block gw h.who.lt h.ne.2.2)
  · exact ownsRow_keep h.row fun g hg => hK.block g (h.row.lt g hg).2 (h.vne g hg).2.2
theorem RL.drew {w : World} {base q gw gt : Nat} {vw : Value} {A : St} (h : RL w base q gw gt vw A) : RL w.drew base q gw gt vw A := h.keep fun _ _ => rfl

/-- 'append(out, src...)' as one step of a region that draws; a cell of an elder block is as it was -/
theorem step_append_src_q {P : Program} (w0 W : World) {ops : Array Oper} {o : Oper} {a : Act} {K : Act → World → Prop} {Q : Exit → Act → World → Prop} {E : Prop} (hgd : o.guard = none) (s x : Operand) (t : TypeId)
    (ho : o.op = .call { callee := .builtin .append, args := #[s, x], argTypes := #[t, t] })
    (e : TypeId) (z : Value) (size bytes m : Nat) (ht : P.underlying t = some (.slice e)) (hinfo : (P.info? e).map (fun i => (i.zero, i.size, i.bytes)) = some (some z, size, bytes))
    (hzs : z.cells.size = size) (hsz : 0 < size)
    (v : Value) (n : Nat) (xs : List Value) (hout : Out w0 W e size v n xs) (hs : a.eval s = v)
    (v2 : Value) (ys : List Value) (hsrc : Sl W v2 m size ys) (hx : a.eval x = v2) (h1 : ∀ u ∈ ys, u.oneCell' = true)
    (h63 : (n + m) * bytes ≤ 140737488355328) (h64 : n + m ≤ 140737488355328)
    (q i : Nat) (u : Value) (hq : q < w0.heap.size) (hc : W.cell? ⟨q, i, none⟩ = some u) (hz : W.frozen? ⟨q, i, none⟩ = false)
    (h : ∀ ad ln cp w', Out w0 w' e size (.slice ad ln cp) (n + m) (xs ++ ys) → W.grownBy w' v.ownBlock → w'.cell? ⟨q, i, none⟩ = some u → w'.frozen? ⟨q, i, none⟩ = false → K (a.put o.dst (.slice ad ln cp)) w') :
    if Region.wanted o (yielded ops a.tmps) = true then Oper.wp P o a W K Q else E :=
  step_append_src w0 W hgd s x t ho e z size bytes m ht hinfo hzs hsz v n xs hout hs v2 ys hsrc hx h1 h63 h64 fun v' w' ho hg => by
    have hb := hg.block q (World.block_lt_of_cell? W _ hc) (fun e => by have := (hout.own.lt q e.symm).1; omega)
    obtain ⟨ad, cp, rfl⟩ := ho.sl.val
    exact h ad _ cp w' ho hg (by rw [World.cell?_of_block (a := ⟨q, i, none⟩) hb]; exact hc) (by rw [World.frozen?_of_block (a := ⟨q, i, none⟩) hb]; exact hz)

set_option maxRecDepth 100000 in
set_option maxHeartbeats 8000000 in
theorem rleave_one {w : World} {base q gw gt c : Nat} {vw : Value} {A : St} (h : RL w base q gw gt vw A) (hI : Inv A c) (hc : c ≤ 1000000) (x k : Int) (hf : leaveFault A x k = 0) (ht : A.times k = 1) :
    Calls Try.prog 14 #[.pointer (some ⟨q, 0, none⟩), .int .i64 x, .int .i64 k] w fun e w' => e = .returned (.int .i64 (leaveFault A x k)) ∧ RBy w base q gw gt vw (leaveSt A x k) w' := by
  have HW := hid (rfault_any h hI hc x k)
  obtain ⟨hf0, hf1, hf2⟩ := leave_zero hf
  obtain ⟨_, ⟨hk0, hk1⟩, _⟩ := fault_zero hf0
  obtain ⟨kk, rfl⟩ : ∃ kk : Nat, k = (kk : Int) := ⟨k.toNat, by omega⟩
  have hkk : kk < 50 := by omega
  obtain ⟨hq0, hq1, hq2⟩ := h.cells
  obtain ⟨hw0, hwf⟩ := h.who.cell hkk
  obtain ⟨ht0, htf⟩ := h.times.cell hkk
  obtain ⟨hR, hKK⟩ := h.less hkk
  rw [ht] at ht0 hR hKK
  have HR := hid hR
  have HKK := hid hKK
  have HI := hid hI
  have HA := hid h
  have hlen := hI.len
  have HF := hid hf0
  have HZ := hid hf
  have HT := hid ht
  obtain ⟨a, d, hv⟩ := h.sl.val
  subst hv
  obtain ⟨W1, hW1⟩ : ∃ W1, w.setCell ⟨gt, kk, none⟩ (.int .i64 (1 - 1)) = W1 := ⟨_, rfl⟩
  rw [hW1] at HR HKK
  have hW2 : w.setCell ⟨gt, kk, none⟩ (.int .i64 0) = W1 := hW1
  obtain ⟨hr0, hr1, hr2⟩ := HR.out.cells
  obtain ⟨hrw, hrwf⟩ := HR.out.who.cell hkk
  obtain ⟨hrt, hrtf⟩ := HR.out.times.cell hkk
  have ht4 : (lessSt A (kk : Int)).times (kk : Int) = 0 := by unfold lessSt; simp only; rw [upd_same, ht]; rfl
  rw [ht4] at hrt
  rw [hf2] at hw0
  clear h hI hf hf0 hf1 hf2 hR hKK ht ht4 hW1
  go_enter Try.func14, Try.ntmps14
  go_wp2_with fail
  refine HW.out.mono ?_
  rintro e w1 ⟨rfl, rfl⟩
  rw [HF.out]
  go_wp2_with fail
  go_loopw [8] (fun i wr => ∃ j : Nat, j ≤ A.waits.length ∧ i = .int .i64 j ∧ W1 = wr ∧ Hid (∀ i (hi : i < A.waits.length), i < j → A.waits[i].2 ≠ (kk : Int))) (fun i _ => A.waits.length - (intOf i).toNat)
  case atStart => exact ⟨0, Nat.zero_le _, rfl, rfl, hid (fun i _ hi => by omega)⟩
  case round =>
    obtain ⟨j, hj, rfl, rfl, HN⟩ := hrel
    by_cases hlt : j < A.waits.length
    · obtain ⟨b, off, hab, hc0, hc1⟩ := w_at (l := A.waits) HR.out.sl hlt
      subst hab
      have hi : (0 : Int) ≤ (j : Int) := by omega
      have hli : (j : Int) < (A.waits.length : Int) := by omega
      by_cases he : A.waits[j].2 = (kk : Int)
      · have HFW := hid (first_wait hlt HN.out he)
        have HLT := hid hlt
        rw [he] at hc1
        obtain ⟨Y, hY⟩ : ∃ Y, A.waits[j].1 = Y := ⟨_, rfl⟩
        have HY := hid hY
        have hc0' : W1.cell? ⟨b, off + j * 2, none⟩ = some (.int .i64 Y) := by rw [← hY]; exact hc0
        clear he hY hc0
        go_wp2
        go_region
        obtain ⟨hR2, hK2⟩ := HR.out.setWho hkk Y
        have HR2 := hid hR2.drew
        have HK2 := hid (HKK.out.trans (hK2.trans (Keeps.drew _ _)))
        clear hR2 hK2 hr0 hr1 hr2 hrw hrwf hrt hrtf hc0' hc1 hW2
        generalize (W1.setCell ⟨gw, kk, none⟩ (.int .i64 Y)).drew = X at HR2 HK2 ⊢
        obtain ⟨hx0, hx1, hx2⟩ := HR2.out.cells
        obtain ⟨hxt, hxtf⟩ := HR2.out.times.cell hkk
        obtain ⟨hR3, hK3⟩ := HR2.out.setTimes hkk 1
        have HR3 := hid hR3
        have HK3 := hid (HK2.out.trans hK3)
        obtain ⟨X2, hX2⟩ : ∃ X2, X.setCell ⟨gt, kk, none⟩ (.int .i64 1) = X2 := ⟨_, rfl⟩
        rw [hX2] at HR3 HK3
        obtain ⟨hy0, hy1, hy2⟩ := HR3.out.cells
        have hyf := frozen_of HR3.out.top 2
        clear hR3 hK3
        have hSL : Sl X2 (.slice (some ⟨b, off, none⟩) A.waits.length d) A.waits.length 2 (wcells A.waits) := HR3.out.sl
        obtain ⟨_, hcap⟩ := hSL.cap
        have hFT := hSL.take j (by omega)
        have hBT := hSL.drop (j + 1) (by omega)
        rw [wcells_take] at hFT
        rw [wcells_drop] at hBT
        obtain ⟨v2, hv2, hB2⟩ : ∃ v2, Value.slice (if d = j + 1 then some ⟨b, off, none⟩ else some ⟨b, off + (j + 1) * 2, none⟩) (A.waits.length - (j + 1)) (d - (j + 1)) = v2 ∧ Sl X2 v2 (A.waits.length - (j + 1)) 2 (wcells (A.waits.drop (j + 1))) := ⟨_, rfl, by
          by_cases h : d = j + 1
          · rw [if_pos h] at hBT ⊢; exact hBT
          · rw [if_neg h] at hBT ⊢; simpa [Addr.add_lit] using hBT⟩
        have hM := Out.made X2 59 2
        have HMD := hid hM.drew
        have HFD := hid (hFT.below hM.drew.below)
        have HBD := hid hB2
        have hqs : q < X2.heap.size := (HR3.out.lt (k := q) (.inl rfl)).2
        have HQS := hid hqs
        have HC1 : Hid ((X2.alloc (.cells #[] 59)).drew.cell? ⟨q, 2, none⟩ = some (.slice (some ⟨b, off, none⟩) A.waits.length d)) := hid (by
          rw [World.cell?_drew, World.cell?_alloc_past _ _ _ hqs]; exact hy2)
        have HC2 : Hid ((X2.alloc (.cells #[] 59)).drew.frozen? ⟨q, 2, none⟩ = false) := hid (by
          have := World.frozen?_of_block (w := X2) (w' := (X2.alloc (.cells #[] 59)).drew) (a := ⟨q, 2, none⟩) (Below.heap_alloc X2 _ _ hqs)
          rw [this]; exact hyf)
        have k2 : (0 : Int) ≤ (j : Int) := by omega
        have k3 : (j : Int) ≤ (d : Int) := by omega
        have k4 : (j : Int) + 1 ≤ (A.waits.length : Int) := by omega
        have k5 : (0 : Int) ≤ (j : Int) + 1 := by omega
        have k7 : ((j : Int) + 1).toNat = j + 1 := by omega
        have k8 : IntKind.i64.wrap ((j : Int) + 1) = (j : Int) + 1 := by rw [IntKind.wrap_i64]; omega
        have k6 : (A.waits.length : Int) ≤ (d : Int) := by omega
        have hc1v : (X2.alloc (.cells #[] 59)).cell? ⟨q, 2, none⟩ = some (.slice (some ⟨b, off, none⟩) A.waits.length d) := HC1.out
        have HFIN : Hid (∀ (ad : Option Addr) (ln cp : Nat) (w'' : World), Out X2 w'' 59 2 (.slice ad ln cp) (0 + j + (A.waits.length - (j + 1))) ([] ++ wcells (A.waits.take j) ++ wcells (A.waits.drop (j + 1))) →
            RBy w base q gw gt (.slice (some ⟨b, off, none⟩) A.waits.length d) (leaveSt A x (kk : Int)) (w''.setCell ⟨q, 2, none⟩ (.slice ad ln cp))) := hid (fun ad ln cp w'' ho => by
          obtain ⟨⟨r, hwr⟩, hera⟩ := HFW.out
          have hwt : waiting A (kk : Int) = Y :: r := by unfold waiting; rw [hwr]; exact congrArg (fun z => z :: r) HY.out
          have hst : leaveSt A x (kk : Int) = nextSt A (kk : Int) Y := by
            rw [leaveSt, if_neg (by rw [HZ.out]; simp), if_neg (by rw [HT.out]; decide), hwt]
          have hR4 := HR3.out.below ho.below
          have hK := Keeps.set w'' q 2 (.slice ad ln cp)
          have hown : ∀ g, (Value.slice ad ln cp).ownBlock = some g → X2.heap.size ≤ g := fun g hg => (ho.own.lt g hg).1
          have hsz := HK3.out.size
          have hvne : ∀ g, (Value.slice ad ln cp).ownBlock = some g → g ≠ q ∧ g ≠ gw ∧ g ≠ gt := fun g hg => by
            have h1 := hown g hg
            have h2 := (HR3.out.lt (k := q) (.inl rfl)).2
            have h3 := (HR3.out.lt (k := gw) (.inr (.inl rfl))).2
            have h4 := (HR3.out.lt (k := gt) (.inr (.inr (.inl rfl)))).2
            omega
          refine ⟨.slice ad ln cp, ?_, ⟨hK.os.trans (ho.below.os.trans HK3.out.os), hK.tape.trans (ho.below.tape.trans HK3.out.tape), hK.output.trans (ho.below.output.trans HK3.out.output), Nat.le_trans hsz (Nat.le_trans ho.below.size hK.size), fun g hg hF => ?_⟩, fun g hg => .inr (Nat.le_trans hsz (hown g hg))⟩
          · rw [hst]
            have hwaits : (nextSt A (kk : Int) Y).waits = A.waits.take j ++ A.waits.drop (j + 1) := hera
            refine ⟨hR4.lo, hR4.ne, hvne, ?_, ?_, ?_, ?_⟩
            · rw [heap_set hR4.top]; rfl
            · exact hR4.who.keep (hK.block gw hR4.who.lt (fun e => hR4.ne.1 e.symm))
            · have h5 := hR4.times.keep (hK.block gt hR4.times.lt (fun e => hR4.ne.2.1 e.symm))
              have h6 : (nextSt A (kk : Int) Y).times = upd (upd A.times (kk : Int) (A.times (kk : Int) - 1)) (kk : Int) 1 := by rw [upd_upd]; rfl
              rw [h6]; exact h5
            · rw [hwaits]
              have h7 : w''.ownsRow base 59 2 (.slice ad ln cp) (A.waits.take j ++ A.waits.drop (j + 1)).length (wcells (A.waits.take j ++ A.waits.drop (j + 1))) := by
                have h8 := ho.own
                have h9 : (A.waits.take j ++ A.waits.drop (j + 1)).length = 0 + j + (A.waits.length - (j + 1)) := by rw [List.length_append, List.length_take, List.length_drop]; omega
                have h10 : wcells (A.waits.take j ++ A.waits.drop (j + 1)) = [] ++ wcells (A.waits.take j) ++ wcells (A.waits.drop (j + 1)) := by unfold wcells; rw [List.flatMap_append]; rfl
                rw [h9, h10]
                refine ⟨h8.1, ?_⟩
                rcases h8.2 with h11 | ⟨g, cap, cur, hv, hbg, rest⟩
                · exact .inl h11
                · exact .inr ⟨g, cap, cur, hv, by have := (HR3.out.lt (k := q) (.inl rfl)); omega, rest⟩
              exact ownsRow_keep h7 fun g hg => hK.block g (h7.lt g hg).2 (hvne g hg).1
          · have h12 : g ≠ q := fun e => hF (.inl e)
            exact (hK.block g (Nat.lt_of_lt_of_le (Nat.lt_of_lt_of_le hg hsz) ho.below.size) h12).trans ((ho.below.block g (Nat.lt_of_lt_of_le hg hsz)).trans (HK3.out.block g hg hF)))
        clear hSL hFT hBT hB2 hM hqs
        go_wp2
        go_region_law (first | refine step_append_src_q X2 _ rfl _ _ 56 rfl 59 _ 2 16 j Try.underlying56 infoPair rfl (by decide) _ _ _ HMD.out rfl _ _ HFD.out rfl (one_wq _) (by omega) (by omega) q 2 _ HQS.out HC1.out HC2.out (fun ad1 ln1 cp1 w' ho hg hcq hfq => ?_) | refine step_append_src_q X2 _ rfl _ _ 56 rfl 59 _ 2 16 (A.waits.length - (j + 1)) Try.underlying56 infoPair rfl (by decide) _ _ _ ho rfl _ _ (HBD.out.below ho.below) rfl (one_wq _) (by omega) (by omega) q 2 _ HQS.out hcq hfq (fun ad2 ln2 cp2 w'' ho2 hg2 hcq2 hfq2 => ?_))
        all_goals
          have HB := hid (HFIN.out _ _ _ _ ho2)
          clear ho ho2 hg hg2 hcq hcq2 hfq hfq2
          go_wp2
          go_ret
          exact ⟨by rw [HZ.out]; rfl, HB.out⟩
      · have HN2 := hid (noWait_step HN.out hlt he)
        have hne : (A.waits[j].2 == (kk : Int)) = false := by simp [he]
        generalize A.waits[j].2 = X at hc1 hne he
        clear hc0 hlt
        go_wp2
        go_roundw
        case rel => exact ⟨j + 1, by omega, by go_num, by first | trivial | rfl, HN2⟩
        case measure => simp [intOf]; omega
    · have hw := noWait_end fun i hi => HN.out i hi (by omega)
      have HQ : Hid (RBy w base q gw gt (.slice a A.waits.length d) (leaveSt A x (kk : Int)) W1) := hid ⟨_, by
        rw [leaveSt, if_neg (by rw [HZ.out]; simp), if_neg (by rw [HT.out]; decide), hw]; exact HR.out, HKK.out, fun k hk => .inl hk⟩
      clear hw
      go_wp2
      go_ret
      exact ⟨by rw [HZ.out]; rfl, HQ.out⟩

theorem rleave_any {w : World} {base q gw gt c : Nat} {vw : Value} {A : St} (h : RL w base q gw gt vw A) (hI : Inv A c) (hc : c ≤ 1000000) (x k : Int) :
    Calls Try.prog 14 #[.pointer (some ⟨q, 0, none⟩), .int .i64 x, .int .i64 k] w fun e w' => e = .returned (.int .i64 (leaveFault A x k)) ∧ RBy w base q gw gt vw (leaveSt A x k) w' := by
  by_cases hf : leaveFault A x k = 0
  · by_cases ht : 1 < A.times k
    · exact rleave_less h hI hc x k hf ht
    · exact rleave_one h hI hc x k hf (by have := (leave_zero hf).2.1; have := hI.t0 k; omega)
  · exact rleave_bad h hI hc x k hf
end Go.Proofs.Ytmfhmikihnjkcaa.locks
