/- The law FoldEnds: its walk. Conditions: the table lies in its variable; the code is not long; its numbers are of 64 bits. -/
import Derived.Test.YtmbcjcicieiolaaDoorFold10
import Derived.Test.YtmbcjcicieiolaaDoorFlow2
import Derived.Test.YtmbcjcicieiolaaDoorGrow
import Derived.Test.YtmbcjcicieiolaaDoorErr
set_option linter.unusedSimpArgs false
set_option linter.unusedVariables false
namespace Go.Proofs.YtmbcjcicieiolaaDoor.folds
open Go.RowKit Go.Proofs.YtmbcjcicieiolaaDoor.lib Go.Proofs.YtmbcjcicieiolaaDoor.errs Go.Proofs.YtmbcjcicieiolaaDoor.names Go.Proofs.YtmbcjcicieiolaaDoor.descs Go.Proofs.YtmbcjcicieiolaaDoor.ins Go.Proofs.YtmbcjcicieiolaaDoor.flows Go.Proofs.YtmbcjcicieiolaaDoor.nums Go.Proofs.YtmbcjcicieiolaaDoor.grow

theorem ins_at6 {w : World} {b off n c : Nat} {l : List I} (h : Go.Proofs.YtmbcjcicieiolaaDoor.flows.Code w (.slice (some ⟨b, off, none⟩) n c) l) {k : Nat} {x : I} (hx : l[k]? = some x) (j : Nat) (hj : j < (I.cells x).toArray.size) :
    w.cell? ⟨b, off + k * 6 + j, none⟩ = (I.cells x).toArray[j]? := by
  obtain ⟨hk, rfl⟩ := List.getElem?_eq_some_iff.1 hx
  obtain ⟨b', off', he, h0, h1, h2, h3, h4, h5⟩ := code_at h hk
  cases he
  have hj6 : j < 6 := hj
  have : j = 0 ∨ j = 1 ∨ j = 2 ∨ j = 3 ∨ j = 4 ∨ j = 5 := by omega
  rcases this with rfl | rfl | rfl | rfl | rfl | rfl
  · exact h0
  · exact h1
  · exact h2
  · exact h3
  · exact h4
  · exact h5

set_option maxRecDepth 100000 in
set_option maxHeartbeats 8000000 in
theorem foldends_any (va : Value) (l : List I) (w : World) (ha : Go.Proofs.YtmbcjcicieiolaaDoor.flows.Code w va l) (hf : FormsAt w) (hs : ∀ x ∈ l, Small x) (hn : l.length ≤ 2000000) :
    Calls Tryd.prog 4 #[va] w fun e w' => e = .returned (.bool true) ∧ Below w.heap.size w w' := by
  have HA := hid ha; have HF := hid hf; have HS := hid hs
  obtain ⟨a, c, rfl⟩ := ha.val
  clear ha hf hs
  by_cases h0 : codeFault l = 0
  · have HZ := hid h0
    have HRI : Hid ((RightC l ∧ ∀ x ∈ l, Small x)) := hid ⟨(code_iff l).1 h0, HS.out⟩
    have hl40 := ((code_iff l).1 h0).1
    have HFR := hid (fin_right HRI.out)
    have HZ2 : Hid (codeFault (finOf l) = 0) := hid ((code_iff _).2 HFR.out.1)
    have hfl := fin_len l
    have HFL := hid hfl
    have HST := hid (fin_stays l)
    have HAG := hid (fin_again l)
    have HSA := hid (fin_same l)
    obtain ⟨m, hm⟩ : ∃ m, finOf l = m := ⟨_, rfl⟩
    rw [hm] at HFR HZ2 hfl HFL HST HAG HSA
    have HM := hid hm
    clear h0 hm
    go_enter Tryd.func4, Tryd.ntmps4
    go_wp2_with fail
    refine (folded_any _ HF.out).mono ?_
    rintro e w1 ⟨rfl, hb1⟩
    have HB1 := hid hb1
    clear hb1
    go_wp2_with fail
    refine (fall_any _ l _ (HA.out.below HB1.out) (HF.out.below HB1.out) HS.out hn).mono ?_
    intro e w4 hr4
    rw [HM.out] at hr4
    obtain ⟨v4, rfl, ho4⟩ := foldBy_good HZ.out hr4
    rw [HFL.out] at ho4
    have HO4 := hid (Out.since HB1.out ho4)
    have HC4 : Hid (Go.Proofs.YtmbcjcicieiolaaDoor.flows.Code w4 v4 m) := hid (by show Sl w4 v4 m.length 6 _; rw [HFL.out]; exact ho4.sl)
    obtain ⟨a4, c4, hv4⟩ := ho4.sl.val
    subst hv4
    clear ho4 hr4
    go_wp2_with fail
    refine (fall_any _ m _ HC4.out (HF.out.below HO4.out.below) HFR.out.2 (by omega)).mono ?_
    intro e w5 hr5
    rw [HAG.out] at hr5
    obtain ⟨v5, rfl, ho5⟩ := foldBy_good HZ2.out hr5
    rw [HFL.out] at ho5
    have HB5 := hid ho5.below
    have HC5 : Hid (Go.Proofs.YtmbcjcicieiolaaDoor.flows.Code w5 v5 m) := hid (by show Sl w5 v5 m.length 6 _; rw [HFL.out]; exact ho5.sl)
    obtain ⟨a5, c5, hv5⟩ := ho5.sl.val
    subst hv5
    clear ho5 hr5
    go_wp2_with fail
    refine (fonce_any _ m _ (HC4.out.below HB5.out) ((HF.out.below HO4.out.below).below HB5.out) HFR.out.2 (by omega)).mono ?_
    intro e w6 hr6
    rw [HSA.out] at hr6
    obtain ⟨v6, rfl, ho6⟩ := foldBy_good HZ2.out hr6
    rw [HFL.out] at ho6
    have HB6 := hid (HB5.out.trans (ho6.below.mono HB5.out.size))
    have HC6 : Hid (Go.Proofs.YtmbcjcicieiolaaDoor.flows.Code w6 v6 m) := hid (by show Sl w6 v6 m.length 6 _; rw [HFL.out]; exact ho6.sl)
    have HC56 := hid (HC5.out.below ho6.below)
    obtain ⟨a6, c6, hv6⟩ := ho6.sl.val
    subst hv6
    clear ho6 hr6
    go_wp2_with fail
    refine (scode_same _ _ m _ HC56.out (HC4.out.below HB6.out) (by omega)).mono ?_
    rintro e w7 ⟨rfl, hb7⟩
    have HB7 := hid (HB6.out.trans (hb7.mono HB6.out.size))
    have HC67 := hid (HC6.out.below hb7)
    clear hb7
    go_wp2_with fail
    refine (scode_same _ _ m _ HC67.out (HC4.out.below HB7.out) (by omega)).mono ?_
    rintro e w8 ⟨rfl, hb8⟩
    have HB8 := hid (HB7.out.trans (hb8.mono HB7.out.size))
    clear hb8
    go_wp2_with fail
    go_loopw [12] (fun i wr => ∃ k : Nat, k ≤ l.length ∧ i = .int .i64 k ∧ Hid (Below w4.heap.size w4 wr)) (fun i _ => l.length - (intOf i).toNat)
    case atStart => exact ⟨0, Nat.zero_le _, rfl, HB8⟩
    case round =>
      obtain ⟨k, hk, rfl, HBR⟩ := hrel
      by_cases hlt : k < l.length
      · have hk0 : (0 : Int) ≤ (k : Int) := by omega
        have hkl : (k : Int) < (l.length : Int) := by omega
        have HX : Hid (l[k]? = some l[k]) := hid (List.getElem?_eq_getElem hlt)
        obtain ⟨b1, o1, hab, _⟩ := code_at HA.out hlt
        subst hab
        obtain ⟨b2, o2, hab2, _⟩ := code_at HC4.out (k := k) (by omega)
        subst hab2
        generalize l[k] = x at HX
        have HOP : Hid (∀ u, Below wr.heap.size wr u → u.cell? ⟨b1, o1 + k * 6, none⟩ = some (.int .i64 x.op)) := hid (fun u hu => ins_at6 ((HA.out.below HO4.out.below).below (HBR.out.trans (hu.mono HBR.out.size))) HX.out 0 (show 0 < 6 by omega))
        have HL6 : Hid (∀ u, Below wr.heap.size wr u → ∀ j, j < (I.cells x).toArray.size → u.cell? ⟨b1, o1 + k * 6 + j, none⟩ = (I.cells x).toArray[j]?) := hid (fun u hu => ins_at6 ((HA.out.below HO4.out.below).below (HBR.out.trans (hu.mono HBR.out.size))) HX.out)
        have HM6' : Hid (jumpsOp x.op = true ∨ endsOp x.op = true → ∀ u, Below wr.heap.size wr u → ∀ j, j < (I.cells x).toArray.size → u.cell? ⟨b2, o2 + k * 6 + j, none⟩ = (I.cells x).toArray[j]?) := hid (fun h u hu => ins_at6 (HC4.out.below (HBR.out.trans (hu.mono HBR.out.size))) (HST.out.2 k x HX.out h))
        cases hJ : jumpsOp x.op with
        | true =>
          have HM6 := hid (HM6'.out (.inl hJ))
          cases hE : endsOp x.op with
          | true =>
            go_wp2_with fail
            refine wp_region_ext [(5, is (.bool true)), (23, is (.bool true))] ⟨is_stays _, is_stays _, trivial⟩ (by kernel_rfl) (by kernel_rfl) ?_
            refine wpG_calc 1 rfl rfl rfl (fun u => by go_simp; rfl) ?_
            simp only [Act.put, List.setIfInBounds_toArray, List.set_cons_zero, List.set_cons_succ]
            refine wpG_calc 2 rfl rfl rfl (fun u => by go_simp; rfl) ?_
            simp only [Act.put, List.setIfInBounds_toArray, List.set_cons_zero, List.set_cons_succ]
            refine wpG_calc 3 rfl rfl rfl (fun u => by go_simp; rfl) ?_
            simp only [Act.put, List.setIfInBounds_toArray, List.set_cons_zero, List.set_cons_succ]
            refine wpG_calc 4 rfl rfl rfl (fun u => by go_simp; rfl) ?_
            simp only [Act.put, List.setIfInBounds_toArray, List.set_cons_zero, List.set_cons_succ]
            refine wpG_read 5 rfl rfl (.int .i64 x.op) rfl ?_ ?_
            · intro u hu hh
              have hk : u.cell? ⟨b1, o1 + k * 6, none⟩ = some (.int .i64 x.op) := HOP.out u hu
              go_simp
            simp only [Act.put, List.setIfInBounds_toArray, List.set_cons_zero, List.set_cons_succ]
            refine wpG_rel 6 rfl rfl rfl ?_ ?_
            · intro u hu hh
              clear hh
              go_simp
              refine (rjumps_any x.op u).mono ?_
              rintro e w6 ⟨rfl, hww⟩
              exact ⟨_, rfl, (by rw [hJ]; rfl), hww ▸ Below.refl _ _⟩
            intro v6 ⟨u6, _, hr6⟩
            cases hr6
            simp only [Act.put, List.setIfInBounds_toArray, List.set_cons_zero, List.set_cons_succ]
            refine wpG_calc 7 rfl rfl rfl (fun u => by go_simp; rfl) ?_
            simp only [Act.put, List.setIfInBounds_toArray, List.set_cons_zero, List.set_cons_succ]
            refine wpG_calc 8 rfl rfl rfl (fun u => by go_simp; rfl) ?_
            simp only [Act.put, List.setIfInBounds_toArray, List.set_cons_zero, List.set_cons_succ]
            refine wpG_calc 9 rfl rfl rfl (fun u => by go_simp; rfl) ?_
            simp only [Act.put, List.setIfInBounds_toArray, List.set_cons_zero, List.set_cons_succ]
            refine wpG_calc 10 rfl rfl rfl (fun u => by go_simp; rfl) ?_
            simp only [Act.put, List.setIfInBounds_toArray, List.set_cons_zero, List.set_cons_succ]
            refine wpG_read 11 rfl rfl (.agg #[.int .i64 x.op, .int .i64 x.a, .int .i64 x.b, .string x.t, .string x.c, .string x.n]) rfl ?_ ?_
            · intro u hu hh
              have hld := run_loadVar_flat (P := Tryd.prog) u b2 (o2 + k * 6) 37 (I.cells x).toArray _ (HM6.out u hu) Tryd.underlying37 rfl (by kernel_rfl)
              unfold execOp
              simp only [Act.eval, Instr.loadAt, Instr.sureAddr, Sem.run_bind, Sem.run_pure]
              change ((Sem.run Tryd.prog (loadVar 37 ⟨b2, o2 + k * 6, none⟩) u).andThen fun a w' => Result.ok (Next.value a) w') = _
              rw [hld]
              rfl
            simp only [Act.put, List.setIfInBounds_toArray, List.set_cons_zero, List.set_cons_succ]
            refine wpG_calc 12 rfl rfl rfl (fun u => by go_simp; rfl) ?_
            simp only [Act.put, List.setIfInBounds_toArray, List.set_cons_zero, List.set_cons_succ]
            refine wpG_calc 13 rfl rfl rfl (fun u => by go_simp; rfl) ?_
            simp only [Act.put, List.setIfInBounds_toArray, List.set_cons_zero, List.set_cons_succ]
            refine wpG_calc 14 rfl rfl rfl (fun u => by go_simp; rfl) ?_
            simp only [Act.put, List.setIfInBounds_toArray, List.set_cons_zero, List.set_cons_succ]
            refine wpG_read 15 rfl rfl (.agg #[.int .i64 x.op, .int .i64 x.a, .int .i64 x.b, .string x.t, .string x.c, .string x.n]) rfl ?_ ?_
            · intro u hu hh
              have hld := run_loadVar_flat (P := Tryd.prog) u b1 (o1 + k * 6) 37 (I.cells x).toArray _ (HL6.out u hu) Tryd.underlying37 rfl (by kernel_rfl)
              unfold execOp
              simp only [Act.eval, Instr.loadAt, Instr.sureAddr, Sem.run_bind, Sem.run_pure]
              change ((Sem.run Tryd.prog (loadVar 37 ⟨b1, o1 + k * 6, none⟩) u).andThen fun a w' => Result.ok (Next.value a) w') = _
              rw [hld]
              rfl
            simp only [Act.put, List.setIfInBounds_toArray, List.set_cons_zero, List.set_cons_succ]
            refine wpG_calc (v := .bool false) 16 rfl rfl rfl (fun u => by have hq := neq_same x.op x.a x.b x.t x.c x.n u; go_simp) ?_
            simp only [Act.put, List.setIfInBounds_toArray, List.set_cons_zero, List.set_cons_succ]
            refine wpG_calc (v := .bool false) 17 rfl rfl rfl (fun u => by go_simp) ?_
            simp only [Act.put, List.setIfInBounds_toArray, List.set_cons_zero, List.set_cons_succ]
            refine wpG_calc 18 rfl rfl rfl (fun u => by go_simp; rfl) ?_
            simp only [Act.put, List.setIfInBounds_toArray, List.set_cons_zero, List.set_cons_succ]
            refine wpG_calc 19 rfl rfl rfl (fun u => by go_simp; rfl) ?_
            simp only [Act.put, List.setIfInBounds_toArray, List.set_cons_zero, List.set_cons_succ]
            refine wpG_calc 20 rfl rfl rfl (fun u => by go_simp; rfl) ?_
            simp only [Act.put, List.setIfInBounds_toArray, List.set_cons_zero, List.set_cons_succ]
            refine wpG_calc 21 rfl rfl rfl (fun u => by go_simp; rfl) ?_
            simp only [Act.put, List.setIfInBounds_toArray, List.set_cons_zero, List.set_cons_succ]
            refine wpG_calc 22 rfl rfl rfl (fun u => by go_simp; rfl) ?_
            simp only [Act.put, List.setIfInBounds_toArray, List.set_cons_zero, List.set_cons_succ]
            refine wpG_read 23 rfl rfl (.int .i64 x.op) rfl ?_ ?_
            · intro u hu hh
              have hk : u.cell? ⟨b1, o1 + k * 6, none⟩ = some (.int .i64 x.op) := HOP.out u hu
              go_simp
            simp only [Act.put, List.setIfInBounds_toArray, List.set_cons_zero, List.set_cons_succ]
            refine wpG_rel 24 rfl rfl rfl ?_ ?_
            · intro u hu hh
              clear hh
              go_simp
              refine (rends_any x.op u).mono ?_
              rintro e w6 ⟨rfl, hww⟩
              exact ⟨_, rfl, (by rw [hE]; rfl), hww ▸ Below.refl _ _⟩
            intro v24 ⟨u24, _, hr24⟩
            cases hr24
            simp only [Act.put, List.setIfInBounds_toArray, List.set_cons_zero, List.set_cons_succ]
            refine wpG_calc 25 rfl rfl rfl (fun u => by go_simp; rfl) ?_
            simp only [Act.put, List.setIfInBounds_toArray, List.set_cons_zero, List.set_cons_succ]
            refine wpG_calc 26 rfl rfl rfl (fun u => by go_simp; rfl) ?_
            simp only [Act.put, List.setIfInBounds_toArray, List.set_cons_zero, List.set_cons_succ]
            refine wpG_calc 27 rfl rfl rfl (fun u => by go_simp; rfl) ?_
            simp only [Act.put, List.setIfInBounds_toArray, List.set_cons_zero, List.set_cons_succ]
            refine wpG_calc 28 rfl rfl rfl (fun u => by go_simp; rfl) ?_
            simp only [Act.put, List.setIfInBounds_toArray, List.set_cons_zero, List.set_cons_succ]
            refine wpG_read 29 rfl rfl (.agg #[.int .i64 x.op, .int .i64 x.a, .int .i64 x.b, .string x.t, .string x.c, .string x.n]) rfl ?_ ?_
            · intro u hu hh
              have hld := run_loadVar_flat (P := Tryd.prog) u b2 (o2 + k * 6) 37 (I.cells x).toArray _ (HM6.out u hu) Tryd.underlying37 rfl (by kernel_rfl)
              unfold execOp
              simp only [Act.eval, Instr.loadAt, Instr.sureAddr, Sem.run_bind, Sem.run_pure]
              change ((Sem.run Tryd.prog (loadVar 37 ⟨b2, o2 + k * 6, none⟩) u).andThen fun a w' => Result.ok (Next.value a) w') = _
              rw [hld]
              rfl
            simp only [Act.put, List.setIfInBounds_toArray, List.set_cons_zero, List.set_cons_succ]
            refine wpG_calc 30 rfl rfl rfl (fun u => by go_simp; rfl) ?_
            simp only [Act.put, List.setIfInBounds_toArray, List.set_cons_zero, List.set_cons_succ]
            refine wpG_calc 31 rfl rfl rfl (fun u => by go_simp; rfl) ?_
            simp only [Act.put, List.setIfInBounds_toArray, List.set_cons_zero, List.set_cons_succ]
            refine wpG_calc 32 rfl rfl rfl (fun u => by go_simp; rfl) ?_
            simp only [Act.put, List.setIfInBounds_toArray, List.set_cons_zero, List.set_cons_succ]
            refine wpG_read 33 rfl rfl (.agg #[.int .i64 x.op, .int .i64 x.a, .int .i64 x.b, .string x.t, .string x.c, .string x.n]) rfl ?_ ?_
            · intro u hu hh
              have hld := run_loadVar_flat (P := Tryd.prog) u b1 (o1 + k * 6) 37 (I.cells x).toArray _ (HL6.out u hu) Tryd.underlying37 rfl (by kernel_rfl)
              unfold execOp
              simp only [Act.eval, Instr.loadAt, Instr.sureAddr, Sem.run_bind, Sem.run_pure]
              change ((Sem.run Tryd.prog (loadVar 37 ⟨b1, o1 + k * 6, none⟩) u).andThen fun a w' => Result.ok (Next.value a) w') = _
              rw [hld]
              rfl
            simp only [Act.put, List.setIfInBounds_toArray, List.set_cons_zero, List.set_cons_succ]
            refine wpG_calc (v := .bool false) 34 rfl rfl rfl (fun u => by have hq := neq_same x.op x.a x.b x.t x.c x.n u; go_simp) ?_
            simp only [Act.put, List.setIfInBounds_toArray, List.set_cons_zero, List.set_cons_succ]
            refine wpG_calc 35 rfl rfl rfl (fun u => by go_simp; rfl) ?_
            simp only [Act.put, List.setIfInBounds_toArray, List.set_cons_zero, List.set_cons_succ]
            refine wpG_calc 36 rfl rfl rfl (fun u => by go_simp; rfl) ?_
            simp only [Act.put, List.setIfInBounds_toArray, List.set_cons_zero, List.set_cons_succ]
            refine wpG_nil fun w' hb' hF => ?_
            have HBQ := hid (HBR.out.trans (hb'.mono HBR.out.size))
            clear hF hb'
            go_wp2_with fail
            go_roundw
            case rel => exact ⟨k + 1, by omega, by go_num, HBQ⟩
            case measure => simp [intOf]; omega
          | false =>
            go_wp2_with fail
            refine wp_region_ext [(5, is (.bool true)), (23, is (.bool false))] ⟨is_stays _, is_stays _, trivial⟩ (by kernel_rfl) (by kernel_rfl) ?_
            refine wpG_calc 1 rfl rfl rfl (fun u => by go_simp; rfl) ?_
            simp only [Act.put, List.setIfInBounds_toArray, List.set_cons_zero, List.set_cons_succ]
            refine wpG_calc 2 rfl rfl rfl (fun u => by go_simp; rfl) ?_
            simp only [Act.put, List.setIfInBounds_toArray, List.set_cons_zero, List.set_cons_succ]
            refine wpG_calc 3 rfl rfl rfl (fun u => by go_simp; rfl) ?_
            simp only [Act.put, List.setIfInBounds_toArray, List.set_cons_zero, List.set_cons_succ]
            refine wpG_calc 4 rfl rfl rfl (fun u => by go_simp; rfl) ?_
            simp only [Act.put, List.setIfInBounds_toArray, List.set_cons_zero, List.set_cons_succ]
            refine wpG_read 5 rfl rfl (.int .i64 x.op) rfl ?_ ?_
            · intro u hu hh
              have hk : u.cell? ⟨b1, o1 + k * 6, none⟩ = some (.int .i64 x.op) := HOP.out u hu
              go_simp
            simp only [Act.put, List.setIfInBounds_toArray, List.set_cons_zero, List.set_cons_succ]
            refine wpG_rel 6 rfl rfl rfl ?_ ?_
            · intro u hu hh
              clear hh
              go_simp
              refine (rjumps_any x.op u).mono ?_
              rintro e w6 ⟨rfl, hww⟩
              exact ⟨_, rfl, (by rw [hJ]; rfl), hww ▸ Below.refl _ _⟩
            intro v6 ⟨u6, _, hr6⟩
            cases hr6
            simp only [Act.put, List.setIfInBounds_toArray, List.set_cons_zero, List.set_cons_succ]
            refine wpG_calc 7 rfl rfl rfl (fun u => by go_simp; rfl) ?_
            simp only [Act.put, List.setIfInBounds_toArray, List.set_cons_zero, List.set_cons_succ]
            refine wpG_calc 8 rfl rfl rfl (fun u => by go_simp; rfl) ?_
            simp only [Act.put, List.setIfInBounds_toArray, List.set_cons_zero, List.set_cons_succ]
            refine wpG_calc 9 rfl rfl rfl (fun u => by go_simp; rfl) ?_
            simp only [Act.put, List.setIfInBounds_toArray, List.set_cons_zero, List.set_cons_succ]
            refine wpG_calc 10 rfl rfl rfl (fun u => by go_simp; rfl) ?_
            simp only [Act.put, List.setIfInBounds_toArray, List.set_cons_zero, List.set_cons_succ]
            refine wpG_read 11 rfl rfl (.agg #[.int .i64 x.op, .int .i64 x.a, .int .i64 x.b, .string x.t, .string x.c, .string x.n]) rfl ?_ ?_
            · intro u hu hh
              have hld := run_loadVar_flat (P := Tryd.prog) u b2 (o2 + k * 6) 37 (I.cells x).toArray _ (HM6.out u hu) Tryd.underlying37 rfl (by kernel_rfl)
              unfold execOp
              simp only [Act.eval, Instr.loadAt, Instr.sureAddr, Sem.run_bind, Sem.run_pure]
              change ((Sem.run Tryd.prog (loadVar 37 ⟨b2, o2 + k * 6, none⟩) u).andThen fun a w' => Result.ok (Next.value a) w') = _
              rw [hld]
              rfl
            simp only [Act.put, List.setIfInBounds_toArray, List.set_cons_zero, List.set_cons_succ]
            refine wpG_calc 12 rfl rfl rfl (fun u => by go_simp; rfl) ?_
            simp only [Act.put, List.setIfInBounds_toArray, List.set_cons_zero, List.set_cons_succ]
            refine wpG_calc 13 rfl rfl rfl (fun u => by go_simp; rfl) ?_
            simp only [Act.put, List.setIfInBounds_toArray, List.set_cons_zero, List.set_cons_succ]
            refine wpG_calc 14 rfl rfl rfl (fun u => by go_simp; rfl) ?_
            simp only [Act.put, List.setIfInBounds_toArray, List.set_cons_zero, List.set_cons_succ]
            refine wpG_read 15 rfl rfl (.agg #[.int .i64 x.op, .int .i64 x.a, .int .i64 x.b, .string x.t, .string x.c, .string x.n]) rfl ?_ ?_
            · intro u hu hh
              have hld := run_loadVar_flat (P := Tryd.prog) u b1 (o1 + k * 6) 37 (I.cells x).toArray _ (HL6.out u hu) Tryd.underlying37 rfl (by kernel_rfl)
              unfold execOp
              simp only [Act.eval, Instr.loadAt, Instr.sureAddr, Sem.run_bind, Sem.run_pure]
              change ((Sem.run Tryd.prog (loadVar 37 ⟨b1, o1 + k * 6, none⟩) u).andThen fun a w' => Result.ok (Next.value a) w') = _
              rw [hld]
              rfl
            simp only [Act.put, List.setIfInBounds_toArray, List.set_cons_zero, List.set_cons_succ]
            refine wpG_calc (v := .bool false) 16 rfl rfl rfl (fun u => by have hq := neq_same x.op x.a x.b x.t x.c x.n u; go_simp) ?_
            simp only [Act.put, List.setIfInBounds_toArray, List.set_cons_zero, List.set_cons_succ]
            refine wpG_calc (v := .bool false) 17 rfl rfl rfl (fun u => by go_simp) ?_
            simp only [Act.put, List.setIfInBounds_toArray, List.set_cons_zero, List.set_cons_succ]
            refine wpG_calc 18 rfl rfl rfl (fun u => by go_simp; rfl) ?_
            simp only [Act.put, List.setIfInBounds_toArray, List.set_cons_zero, List.set_cons_succ]
            refine wpG_calc 19 rfl rfl rfl (fun u => by go_simp; rfl) ?_
            simp only [Act.put, List.setIfInBounds_toArray, List.set_cons_zero, List.set_cons_succ]
            refine wpG_calc 20 rfl rfl rfl (fun u => by go_simp; rfl) ?_
            simp only [Act.put, List.setIfInBounds_toArray, List.set_cons_zero, List.set_cons_succ]
            refine wpG_calc 21 rfl rfl rfl (fun u => by go_simp; rfl) ?_
            simp only [Act.put, List.setIfInBounds_toArray, List.set_cons_zero, List.set_cons_succ]
            refine wpG_calc 22 rfl rfl rfl (fun u => by go_simp; rfl) ?_
            simp only [Act.put, List.setIfInBounds_toArray, List.set_cons_zero, List.set_cons_succ]
            refine wpG_read 23 rfl rfl (.int .i64 x.op) rfl ?_ ?_
            · intro u hu hh
              have hk : u.cell? ⟨b1, o1 + k * 6, none⟩ = some (.int .i64 x.op) := HOP.out u hu
              go_simp
            simp only [Act.put, List.setIfInBounds_toArray, List.set_cons_zero, List.set_cons_succ]
            refine wpG_rel 24 rfl rfl rfl ?_ ?_
            · intro u hu hh
              clear hh
              go_simp
              refine (rends_any x.op u).mono ?_
              rintro e w6 ⟨rfl, hww⟩
              exact ⟨_, rfl, (by rw [hE]; rfl), hww ▸ Below.refl _ _⟩
            intro v24 ⟨u24, _, hr24⟩
            cases hr24
            simp only [Act.put, List.setIfInBounds_toArray, List.set_cons_zero, List.set_cons_succ]
            refine wpG_calc 25 rfl rfl rfl (fun u => by go_simp; rfl) ?_
            simp only [Act.put, List.setIfInBounds_toArray, List.set_cons_zero, List.set_cons_succ]
            refine wpG_skip 26 rfl rfl ?_
            simp only [Act.put, List.setIfInBounds_toArray, List.set_cons_zero, List.set_cons_succ]
            refine wpG_skip 27 rfl rfl ?_
            simp only [Act.put, List.setIfInBounds_toArray, List.set_cons_zero, List.set_cons_succ]
            refine wpG_skip 28 rfl rfl ?_
            simp only [Act.put, List.setIfInBounds_toArray, List.set_cons_zero, List.set_cons_succ]
            refine wpG_skip 29 rfl rfl ?_
            simp only [Act.put, List.setIfInBounds_toArray, List.set_cons_zero, List.set_cons_succ]
            refine wpG_skip 30 rfl rfl ?_
            simp only [Act.put, List.setIfInBounds_toArray, List.set_cons_zero, List.set_cons_succ]
            refine wpG_skip 31 rfl rfl ?_
            simp only [Act.put, List.setIfInBounds_toArray, List.set_cons_zero, List.set_cons_succ]
            refine wpG_skip 32 rfl rfl ?_
            simp only [Act.put, List.setIfInBounds_toArray, List.set_cons_zero, List.set_cons_succ]
            refine wpG_skip 33 rfl rfl ?_
            simp only [Act.put, List.setIfInBounds_toArray, List.set_cons_zero, List.set_cons_succ]
            refine wpG_skip 34 rfl rfl ?_
            simp only [Act.put, List.setIfInBounds_toArray, List.set_cons_zero, List.set_cons_succ]
            refine wpG_calc 35 rfl rfl rfl (fun u => by go_simp; rfl) ?_
            simp only [Act.put, List.setIfInBounds_toArray, List.set_cons_zero, List.set_cons_succ]
            refine wpG_calc 36 rfl rfl rfl (fun u => by go_simp; rfl) ?_
            simp only [Act.put, List.setIfInBounds_toArray, List.set_cons_zero, List.set_cons_succ]
            refine wpG_nil fun w' hb' hF => ?_
            have HBQ := hid (HBR.out.trans (hb'.mono HBR.out.size))
            clear hF hb'
            go_wp2_with fail
            go_roundw
            case rel => exact ⟨k + 1, by omega, by go_num, HBQ⟩
            case measure => simp [intOf]; omega
        | false =>
          cases hE : endsOp x.op with
          | true =>
            have HM6 := hid (HM6'.out (.inr hE))
            go_wp2_with fail
            refine wp_region_ext [(5, is (.bool false)), (23, is (.bool true))] ⟨is_stays _, is_stays _, trivial⟩ (by kernel_rfl) (by kernel_rfl) ?_
            refine wpG_calc 1 rfl rfl rfl (fun u => by go_simp; rfl) ?_
            simp only [Act.put, List.setIfInBounds_toArray, List.set_cons_zero, List.set_cons_succ]
            refine wpG_calc 2 rfl rfl rfl (fun u => by go_simp; rfl) ?_
            simp only [Act.put, List.setIfInBounds_toArray, List.set_cons_zero, List.set_cons_succ]
            refine wpG_calc 3 rfl rfl rfl (fun u => by go_simp; rfl) ?_
            simp only [Act.put, List.setIfInBounds_toArray, List.set_cons_zero, List.set_cons_succ]
            refine wpG_calc 4 rfl rfl rfl (fun u => by go_simp; rfl) ?_
            simp only [Act.put, List.setIfInBounds_toArray, List.set_cons_zero, List.set_cons_succ]
            refine wpG_read 5 rfl rfl (.int .i64 x.op) rfl ?_ ?_
            · intro u hu hh
              have hk : u.cell? ⟨b1, o1 + k * 6, none⟩ = some (.int .i64 x.op) := HOP.out u hu
              go_simp
            simp only [Act.put, List.setIfInBounds_toArray, List.set_cons_zero, List.set_cons_succ]
            refine wpG_rel 6 rfl rfl rfl ?_ ?_
            · intro u hu hh
              clear hh
              go_simp
              refine (rjumps_any x.op u).mono ?_
              rintro e w6 ⟨rfl, hww⟩
              exact ⟨_, rfl, (by rw [hJ]; rfl), hww ▸ Below.refl _ _⟩
            intro v6 ⟨u6, _, hr6⟩
            cases hr6
            simp only [Act.put, List.setIfInBounds_toArray, List.set_cons_zero, List.set_cons_succ]
            refine wpG_calc 7 rfl rfl rfl (fun u => by go_simp; rfl) ?_
            simp only [Act.put, List.setIfInBounds_toArray, List.set_cons_zero, List.set_cons_succ]
            refine wpG_skip 8 rfl rfl ?_
            simp only [Act.put, List.setIfInBounds_toArray, List.set_cons_zero, List.set_cons_succ]
            refine wpG_skip 9 rfl rfl ?_
            simp only [Act.put, List.setIfInBounds_toArray, List.set_cons_zero, List.set_cons_succ]
            refine wpG_skip 10 rfl rfl ?_
            simp only [Act.put, List.setIfInBounds_toArray, List.set_cons_zero, List.set_cons_succ]
            refine wpG_skip 11 rfl rfl ?_
            simp only [Act.put, List.setIfInBounds_toArray, List.set_cons_zero, List.set_cons_succ]
            refine wpG_skip 12 rfl rfl ?_
            simp only [Act.put, List.setIfInBounds_toArray, List.set_cons_zero, List.set_cons_succ]
            refine wpG_skip 13 rfl rfl ?_
            simp only [Act.put, List.setIfInBounds_toArray, List.set_cons_zero, List.set_cons_succ]
            refine wpG_skip 14 rfl rfl ?_
            simp only [Act.put, List.setIfInBounds_toArray, List.set_cons_zero, List.set_cons_succ]
            refine wpG_skip 15 rfl rfl ?_
            simp only [Act.put, List.setIfInBounds_toArray, List.set_cons_zero, List.set_cons_succ]
            refine wpG_skip 16 rfl rfl ?_
            simp only [Act.put, List.setIfInBounds_toArray, List.set_cons_zero, List.set_cons_succ]
            refine wpG_calc 17 rfl rfl rfl (fun u => by go_simp; rfl) ?_
            simp only [Act.put, List.setIfInBounds_toArray, List.set_cons_zero, List.set_cons_succ]
            refine wpG_calc 18 rfl rfl rfl (fun u => by go_simp; rfl) ?_
            simp only [Act.put, List.setIfInBounds_toArray, List.set_cons_zero, List.set_cons_succ]
            refine wpG_calc 19 rfl rfl rfl (fun u => by go_simp; rfl) ?_
            simp only [Act.put, List.setIfInBounds_toArray, List.set_cons_zero, List.set_cons_succ]
            refine wpG_calc 20 rfl rfl rfl (fun u => by go_simp; rfl) ?_
            simp only [Act.put, List.setIfInBounds_toArray, List.set_cons_zero, List.set_cons_succ]
            refine wpG_calc 21 rfl rfl rfl (fun u => by go_simp; rfl) ?_
            simp only [Act.put, List.setIfInBounds_toArray, List.set_cons_zero, List.set_cons_succ]
            refine wpG_calc 22 rfl rfl rfl (fun u => by go_simp; rfl) ?_
            simp only [Act.put, List.setIfInBounds_toArray, List.set_cons_zero, List.set_cons_succ]
            refine wpG_read 23 rfl rfl (.int .i64 x.op) rfl ?_ ?_
            · intro u hu hh
              have hk : u.cell? ⟨b1, o1 + k * 6, none⟩ = some (.int .i64 x.op) := HOP.out u hu
              go_simp
            simp only [Act.put, List.setIfInBounds_toArray, List.set_cons_zero, List.set_cons_succ]
            refine wpG_rel 24 rfl rfl rfl ?_ ?_
            · intro u hu hh
              clear hh
              go_simp
              refine (rends_any x.op u).mono ?_
              rintro e w6 ⟨rfl, hww⟩
              exact ⟨_, rfl, (by rw [hE]; rfl), hww ▸ Below.refl _ _⟩
            intro v24 ⟨u24, _, hr24⟩
            cases hr24
            simp only [Act.put, List.setIfInBounds_toArray, List.set_cons_zero, List.set_cons_succ]
            refine wpG_calc 25 rfl rfl rfl (fun u => by go_simp; rfl) ?_
            simp only [Act.put, List.setIfInBounds_toArray, List.set_cons_zero, List.set_cons_succ]
            refine wpG_calc 26 rfl rfl rfl (fun u => by go_simp; rfl) ?_
            simp only [Act.put, List.setIfInBounds_toArray, List.set_cons_zero, List.set_cons_succ]
            refine wpG_calc 27 rfl rfl rfl (fun u => by go_simp; rfl) ?_
            simp only [Act.put, List.setIfInBounds_toArray, List.set_cons_zero, List.set_cons_succ]
            refine wpG_calc 28 rfl rfl rfl (fun u => by go_simp; rfl) ?_
            simp only [Act.put, List.setIfInBounds_toArray, List.set_cons_zero, List.set_cons_succ]
            refine wpG_read 29 rfl rfl (.agg #[.int .i64 x.op, .int .i64 x.a, .int .i64 x.b, .string x.t, .string x.c, .string x.n]) rfl ?_ ?_
            · intro u hu hh
              have hld := run_loadVar_flat (P := Tryd.prog) u b2 (o2 + k * 6) 37 (I.cells x).toArray _ (HM6.out u hu) Tryd.underlying37 rfl (by kernel_rfl)
              unfold execOp
              simp only [Act.eval, Instr.loadAt, Instr.sureAddr, Sem.run_bind, Sem.run_pure]
              change ((Sem.run Tryd.prog (loadVar 37 ⟨b2, o2 + k * 6, none⟩) u).andThen fun a w' => Result.ok (Next.value a) w') = _
              rw [hld]
              rfl
            simp only [Act.put, List.setIfInBounds_toArray, List.set_cons_zero, List.set_cons_succ]
            refine wpG_calc 30 rfl rfl rfl (fun u => by go_simp; rfl) ?_
            simp only [Act.put, List.setIfInBounds_toArray, List.set_cons_zero, List.set_cons_succ]
            refine wpG_calc 31 rfl rfl rfl (fun u => by go_simp; rfl) ?_
            simp only [Act.put, List.setIfInBounds_toArray, List.set_cons_zero, List.set_cons_succ]
            refine wpG_calc 32 rfl rfl rfl (fun u => by go_simp; rfl) ?_
            simp only [Act.put, List.setIfInBounds_toArray, List.set_cons_zero, List.set_cons_succ]
            refine wpG_read 33 rfl rfl (.agg #[.int .i64 x.op, .int .i64 x.a, .int .i64 x.b, .string x.t, .string x.c, .string x.n]) rfl ?_ ?_
            · intro u hu hh
              have hld := run_loadVar_flat (P := Tryd.prog) u b1 (o1 + k * 6) 37 (I.cells x).toArray _ (HL6.out u hu) Tryd.underlying37 rfl (by kernel_rfl)
              unfold execOp
              simp only [Act.eval, Instr.loadAt, Instr.sureAddr, Sem.run_bind, Sem.run_pure]
              change ((Sem.run Tryd.prog (loadVar 37 ⟨b1, o1 + k * 6, none⟩) u).andThen fun a w' => Result.ok (Next.value a) w') = _
              rw [hld]
              rfl
            simp only [Act.put, List.setIfInBounds_toArray, List.set_cons_zero, List.set_cons_succ]
            refine wpG_calc (v := .bool false) 34 rfl rfl rfl (fun u => by have hq := neq_same x.op x.a x.b x.t x.c x.n u; go_simp) ?_
            simp only [Act.put, List.setIfInBounds_toArray, List.set_cons_zero, List.set_cons_succ]
            refine wpG_calc 35 rfl rfl rfl (fun u => by go_simp; rfl) ?_
            simp only [Act.put, List.setIfInBounds_toArray, List.set_cons_zero, List.set_cons_succ]
            refine wpG_calc 36 rfl rfl rfl (fun u => by go_simp; rfl) ?_
            simp only [Act.put, List.setIfInBounds_toArray, List.set_cons_zero, List.set_cons_succ]
            refine wpG_nil fun w' hb' hF => ?_
            have HBQ := hid (HBR.out.trans (hb'.mono HBR.out.size))
            clear hF hb'
            go_wp2_with fail
            go_roundw
            case rel => exact ⟨k + 1, by omega, by go_num, HBQ⟩
            case measure => simp [intOf]; omega
          | false =>
            go_wp2_with fail
            refine wp_region_ext [(5, is (.bool false)), (23, is (.bool false))] ⟨is_stays _, is_stays _, trivial⟩ (by kernel_rfl) (by kernel_rfl) ?_
            refine wpG_calc 1 rfl rfl rfl (fun u => by go_simp; rfl) ?_
            simp only [Act.put, List.setIfInBounds_toArray, List.set_cons_zero, List.set_cons_succ]
            refine wpG_calc 2 rfl rfl rfl (fun u => by go_simp; rfl) ?_
            simp only [Act.put, List.setIfInBounds_toArray, List.set_cons_zero, List.set_cons_succ]
            refine wpG_calc 3 rfl rfl rfl (fun u => by go_simp; rfl) ?_
            simp only [Act.put, List.setIfInBounds_toArray, List.set_cons_zero, List.set_cons_succ]
            refine wpG_calc 4 rfl rfl rfl (fun u => by go_simp; rfl) ?_
            simp only [Act.put, List.setIfInBounds_toArray, List.set_cons_zero, List.set_cons_succ]
            refine wpG_read 5 rfl rfl (.int .i64 x.op) rfl ?_ ?_
            · intro u hu hh
              have hk : u.cell? ⟨b1, o1 + k * 6, none⟩ = some (.int .i64 x.op) := HOP.out u hu
              go_simp
            simp only [Act.put, List.setIfInBounds_toArray, List.set_cons_zero, List.set_cons_succ]
            refine wpG_rel 6 rfl rfl rfl ?_ ?_
            · intro u hu hh
              clear hh
              go_simp
              refine (rjumps_any x.op u).mono ?_
              rintro e w6 ⟨rfl, hww⟩
              exact ⟨_, rfl, (by rw [hJ]; rfl), hww ▸ Below.refl _ _⟩
            intro v6 ⟨u6, _, hr6⟩
            cases hr6
            simp only [Act.put, List.setIfInBounds_toArray, List.set_cons_zero, List.set_cons_succ]
            refine wpG_calc 7 rfl rfl rfl (fun u => by go_simp; rfl) ?_
            simp only [Act.put, List.setIfInBounds_toArray, List.set_cons_zero, List.set_cons_succ]
            refine wpG_skip 8 rfl rfl ?_
            simp only [Act.put, List.setIfInBounds_toArray, List.set_cons_zero, List.set_cons_succ]
            refine wpG_skip 9 rfl rfl ?_
            simp only [Act.put, List.setIfInBounds_toArray, List.set_cons_zero, List.set_cons_succ]
            refine wpG_skip 10 rfl rfl ?_
            simp only [Act.put, List.setIfInBounds_toArray, List.set_cons_zero, List.set_cons_succ]
            refine wpG_skip 11 rfl rfl ?_
            simp only [Act.put, List.setIfInBounds_toArray, List.set_cons_zero, List.set_cons_succ]
            refine wpG_skip 12 rfl rfl ?_
            simp only [Act.put, List.setIfInBounds_toArray, List.set_cons_zero, List.set_cons_succ]
            refine wpG_skip 13 rfl rfl ?_
            simp only [Act.put, List.setIfInBounds_toArray, List.set_cons_zero, List.set_cons_succ]
            refine wpG_skip 14 rfl rfl ?_
            simp only [Act.put, List.setIfInBounds_toArray, List.set_cons_zero, List.set_cons_succ]
            refine wpG_skip 15 rfl rfl ?_
            simp only [Act.put, List.setIfInBounds_toArray, List.set_cons_zero, List.set_cons_succ]
            refine wpG_skip 16 rfl rfl ?_
            simp only [Act.put, List.setIfInBounds_toArray, List.set_cons_zero, List.set_cons_succ]
            refine wpG_calc 17 rfl rfl rfl (fun u => by go_simp; rfl) ?_
            simp only [Act.put, List.setIfInBounds_toArray, List.set_cons_zero, List.set_cons_succ]
            refine wpG_calc 18 rfl rfl rfl (fun u => by go_simp; rfl) ?_
            simp only [Act.put, List.setIfInBounds_toArray, List.set_cons_zero, List.set_cons_succ]
            refine wpG_calc 19 rfl rfl rfl (fun u => by go_simp; rfl) ?_
            simp only [Act.put, List.setIfInBounds_toArray, List.set_cons_zero, List.set_cons_succ]
            refine wpG_calc 20 rfl rfl rfl (fun u => by go_simp; rfl) ?_
            simp only [Act.put, List.setIfInBounds_toArray, List.set_cons_zero, List.set_cons_succ]
            refine wpG_calc 21 rfl rfl rfl (fun u => by go_simp; rfl) ?_
            simp only [Act.put, List.setIfInBounds_toArray, List.set_cons_zero, List.set_cons_succ]
            refine wpG_calc 22 rfl rfl rfl (fun u => by go_simp; rfl) ?_
            simp only [Act.put, List.setIfInBounds_toArray, List.set_cons_zero, List.set_cons_succ]
            refine wpG_read 23 rfl rfl (.int .i64 x.op) rfl ?_ ?_
            · intro u hu hh
              have hk : u.cell? ⟨b1, o1 + k * 6, none⟩ = some (.int .i64 x.op) := HOP.out u hu
              go_simp
            simp only [Act.put, List.setIfInBounds_toArray, List.set_cons_zero, List.set_cons_succ]
            refine wpG_rel 24 rfl rfl rfl ?_ ?_
            · intro u hu hh
              clear hh
              go_simp
              refine (rends_any x.op u).mono ?_
              rintro e w6 ⟨rfl, hww⟩
              exact ⟨_, rfl, (by rw [hE]; rfl), hww ▸ Below.refl _ _⟩
            intro v24 ⟨u24, _, hr24⟩
            cases hr24
            simp only [Act.put, List.setIfInBounds_toArray, List.set_cons_zero, List.set_cons_succ]
            refine wpG_calc 25 rfl rfl rfl (fun u => by go_simp; rfl) ?_
            simp only [Act.put, List.setIfInBounds_toArray, List.set_cons_zero, List.set_cons_succ]
            refine wpG_skip 26 rfl rfl ?_
            simp only [Act.put, List.setIfInBounds_toArray, List.set_cons_zero, List.set_cons_succ]
            refine wpG_skip 27 rfl rfl ?_
            simp only [Act.put, List.setIfInBounds_toArray, List.set_cons_zero, List.set_cons_succ]
            refine wpG_skip 28 rfl rfl ?_
            simp only [Act.put, List.setIfInBounds_toArray, List.set_cons_zero, List.set_cons_succ]
            refine wpG_skip 29 rfl rfl ?_
            simp only [Act.put, List.setIfInBounds_toArray, List.set_cons_zero, List.set_cons_succ]
            refine wpG_skip 30 rfl rfl ?_
            simp only [Act.put, List.setIfInBounds_toArray, List.set_cons_zero, List.set_cons_succ]
            refine wpG_skip 31 rfl rfl ?_
            simp only [Act.put, List.setIfInBounds_toArray, List.set_cons_zero, List.set_cons_succ]
            refine wpG_skip 32 rfl rfl ?_
            simp only [Act.put, List.setIfInBounds_toArray, List.set_cons_zero, List.set_cons_succ]
            refine wpG_skip 33 rfl rfl ?_
            simp only [Act.put, List.setIfInBounds_toArray, List.set_cons_zero, List.set_cons_succ]
            refine wpG_skip 34 rfl rfl ?_
            simp only [Act.put, List.setIfInBounds_toArray, List.set_cons_zero, List.set_cons_succ]
            refine wpG_calc 35 rfl rfl rfl (fun u => by go_simp; rfl) ?_
            simp only [Act.put, List.setIfInBounds_toArray, List.set_cons_zero, List.set_cons_succ]
            refine wpG_calc 36 rfl rfl rfl (fun u => by go_simp; rfl) ?_
            simp only [Act.put, List.setIfInBounds_toArray, List.set_cons_zero, List.set_cons_succ]
            refine wpG_nil fun w' hb' hF => ?_
            have HBQ := hid (HBR.out.trans (hb'.mono HBR.out.size))
            clear hF hb'
            go_wp2_with fail
            go_roundw
            case rel => exact ⟨k + 1, by omega, by go_num, HBQ⟩
            case measure => simp [intOf]; omega
      · have hge : ¬ (k : Int) < (l.length : Int) := by omega
        have HCK := hid (fcheck_any (.slice a4 l.length c4) m wr (HC4.out.below HBR.out) ((HF.out.below HO4.out.below).below HBR.out) HFR.out.2 (by omega))
        go_wp2_with fail
        refine HCK.out.mono ?_
        rintro e w9 ⟨rfl, hb9⟩
        have HE9 := hid (errVal_zero HZ2.out)
        rw [HE9.out]
        have HB9 := hid (HO4.out.below.trans ((HBR.out.trans (hb9.mono HBR.out.size)).mono HO4.out.below.size))
        clear hb9
        go_wp2
        go_ret
        exact ⟨rfl, HB9.out⟩
  · have HZ := hid h0
    clear h0
    go_enter Tryd.func4, Tryd.ntmps4
    go_wp2_with fail
    refine (folded_any _ HF.out).mono ?_
    rintro e w1 ⟨rfl, hb1⟩
    have HB1 := hid hb1
    clear hb1
    go_wp2_with fail
    refine (fall_any _ l _ (HA.out.below HB1.out) (HF.out.below HB1.out) HS.out hn).mono ?_
    intro e w4 hr4
    obtain ⟨rfl, hb4⟩ := foldBy_bad HZ.out hr4
    have HB4 := hid (HB1.out.trans (hb4.mono HB1.out.size))
    clear hb4 hr4
    go_wp2
    go_ret
    exact ⟨rfl, HB4.out⟩
end Go.Proofs.YtmbcjcicieiolaaDoor.folds
