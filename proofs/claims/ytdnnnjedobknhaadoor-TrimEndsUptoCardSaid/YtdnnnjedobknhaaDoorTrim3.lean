/- What is never done: trim.left. Condition: the code is not long, and no jump leads outside. -/
import Derived.Test.YtdnnnjedobknhaaDoorTrim2
namespace Go.Proofs.YtdnnnjedobknhaaDoor.trims
open Go.RowKit Go.Proofs.YtdnnnjedobknhaaDoor.lib Go.Proofs.YtdnnnjedobknhaaDoor.errs Go.Proofs.YtdnnnjedobknhaaDoor.names Go.Proofs.YtdnnnjedobknhaaDoor.descs Go.Proofs.YtdnnnjedobknhaaDoor.ins Go.Proofs.YtdnnnjedobknhaaDoor.reach Go.Proofs.YtdnnnjedobknhaaDoor.flows

theorem infoOne : (Tryd.prog.info? 53).map (fun i => (i.zero, i.size, i.bytes)) = some (some (.agg #[.int .i64 0, .int .i64 0, .int .i64 0, .string { data := #[] }, .string { data := #[] }, .string { data := #[] }]), 6, 72) := by kernel_rfl
theorem cells_snoc (l : List I) (x : I) : cellsOf (l ++ [x]) = cellsOf l ++ x.cells := by simp [cellsOf, List.flatMap_append]
theorem place_mono (l : List I) (s : List Bool) (k : Nat) : placeOf l s k ≤ placeOf l s (k + 1) := by rw [place_succ]; omega

theorem _root_.Go.Proofs.YtdnnnjedobknhaaDoor.lib.Out.set_far {w0 w : World} {e : TypeId} {size : Nat} {v : Value} {n : Nat} {xs : List Value} (h : Out w0 w e size v n xs) (g i : Nat) (x : Value) (hne : ∀ k, v.ownBlock = some k → k ≠ g) (hb : w0.heap.size ≤ g) : Out w0 (w.setCell ⟨g, i, none⟩ x) e size v n xs := by
  refine ⟨h.own.kept (grown_set w ⟨g, i, none⟩ x) ?_, h.below.setCell hb x⟩
  cases hv : v.ownBlock with
  | none => exact .inl rfl
  | some k => exact .inr (fun e => hne k hv (Option.some.inj e))

set_option maxRecDepth 100000 in
set_option maxHeartbeats 8000000 in
theorem left_any (va vk : Value) (l : List I) (s : List Bool) (w : World) (ha : Go.Proofs.YtdnnnjedobknhaaDoor.flows.Code w va l) (hk : Sl w vk s.length 1 (bools s)) (hl : s.length = l.length) (hn : l.length ≤ 2000000) (hJ : ∀ x ∈ l, jumpsOp x.op = true → 0 ≤ x.a ∧ x.a ≤ (l.length : Int)) :
    Calls Tryd.prog 63 #[va, vk] w fun e w' => ∃ v v2, e = .returned (.tuple #[v, v2]) ∧ Out w w' 53 6 v (trimOf l s).length (cellsOf (trimOf l s)) := by
  have HPL := hid (places_any va vk l s w ha hk hl hn)
  obtain ⟨a, c, rfl⟩ := ha.val
  obtain ⟨a2, c2, rfl⟩ := hk.val
  have HA := hid ha; have HJ := hid hJ
  clear ha hk hJ hl
  go_enter Tryd.func63, Tryd.ntmps63
  go_wp2_with fail
  refine HPL.out.mono ?_
  rintro e w1 ⟨vp, rfl, hop⟩
  have HP := hid hop.sl
  have HB1 := hid hop.below
  have hpl := placesL_len l s
  obtain ⟨a3, c3, rfl⟩ := hop.sl.val
  have HPL2 := hid hpl
  clear hop hpl
  go_wp2_with fail
  go_loopw [7, 15] (fun vt i wr => ∃ k : Nat, k ≤ l.length ∧ i = .int .i64 k ∧ Hid (Out w1 wr 53 6 vt (trimTo l s k).length (cellsOf (trimTo l s k)))) (fun _ i _ => l.length - (intOf i).toNat)
  case atStart => exact ⟨0, Nat.zero_le _, rfl, hid (Out.nil _ _ _)⟩
  case round =>
    obtain ⟨k, hk, rfl, HR⟩ := hrel
    by_cases hlt : k < l.length
    · obtain ⟨b, off, hab, hc0, hc1, hc2, hc3, hc4, hc5⟩ := code_at ((HA.out.below HB1.out).below HR.out.below) hlt
      subst hab
      have hi : (0 : Int) ≤ (k : Int) := by omega
      have hkl : (k : Int) < (l.length : Int) := by omega
      have hkx : (k : Int) < ((placesL l s).length : Int) := by rw [HPL2.out]; omega
      have hkx2 : (k : Int) + 1 < ((placesL l s).length : Int) := by rw [HPL2.out]; omega
      have hkx3 : (0 : Int) ≤ (k : Int) + 1 := by omega
      have k7 : ((k : Int) + 1).toNat = k + 1 := by omega
      have k8 : IntKind.i64.wrap ((k : Int) + 1) = (k : Int) + 1 := by rw [IntKind.wrap_i64]; omega
      have HJX := hid (HJ.out _ (List.getElem_mem hlt))
      have HMV := hid (mv_at (s := s) hlt)
      have HPS := hid (place_succ l s k)
      have hlen := trim_len l s k
      have hple := place_le l s k
      obtain ⟨av, cv, hvv⟩ := HR.out.sl.val
      subst hvv
      generalize l[k] = x at hc0 hc1 hc2 hc3 hc4 hc5 HJX HMV
      obtain ⟨op, xa, xb, t, xc, xn⟩ := x
      have HOA := hid (HR.out.alloc (.cells #[.int .i64 op, .int .i64 xa, .int .i64 xb, .string t, .string xc, .string xn] 53))
      obtain ⟨bp, op1, hap, hp0⟩ := ints_read (HP.out.below HOA.out.below) (k := k) (by rw [HPL2.out]; omega)
      subst hap
      obtain ⟨bp2, op2, hap2, hp1⟩ := ints_read (HP.out.below HOA.out.below) (k := k + 1) (by rw [HPL2.out]; omega)
      simp only [Option.some.injEq, Addr.mk.injEq] at hap2
      obtain ⟨rfl, rfl, _⟩ := hap2
      rw [placesL_at] at hp0 hp1
      have hlb : (trimTo l s k).length ≤ 2000000 := by omega
      by_cases hkk : kept l s k = true
      · have hps : placeOf l s (k + 1) = placeOf l s k + 1 := by rw [HPS.out, if_pos hkk]
        have HTY := hid (trim_yes hkk)
        rw [hps] at hp1
        generalize placeOf l s k = p at hp0 hp1
        have hne : (((p + 1 : Nat) : Int) == (p : Int)) = false := by simp; omega
        have hne2 : ¬ ((p + 1 : Nat) : Int) = (p : Int) := by omega
        clear hkk hps hlen hple
        go_wp2_with fail
        go_quiet (fail)
        go_wp2_with fail
        refine (jumps_any op _).mono ?_
        rintro e wj ⟨rfl, rfl⟩
        cases hj : jumpsOp op with
        | false =>
          have HMO : Hid (mv l s k = ⟨op, xa, xb, t, xc, xn⟩) := hid (by rw [HMV.out]; unfold moved; rw [if_neg (by rw [hj]; decide)])
          clear hj
          go_wp2_with (at_builtin; refine wpList_append_lit_b w1 _ _ _ rfl _ _ 33 rfl 53 _ 6 72 1 Tryd.underlying33 infoOne rfl (by decide) _ _ _ (HOA.out.later (below_drewN (Below.refl _ _) _)) rfl rfl ?_ rfl ?_ ?_ ?_ ?_)
          all_goals first | (intro v' w' ho hg _) | omega | (simp [Value.oneCell']; done) | skip
          have HO2 := hid (show Out w1 w' 53 6 v' (trimTo l s (k + 1)).length (cellsOf (trimTo l s (k + 1))) from by rw [HTY.out, List.length_append, cells_snoc, HMO.out]; exact ho)
          clear ho hg
          go_wp2
          go_roundw
          case rel => exact ⟨k + 1, by omega, by go_num, HO2⟩
          case measure => simp [intOf]; omega
        | true =>
          obtain ⟨hja0, hja1⟩ := HJX.out hj
          obtain ⟨j, rfl⟩ : ∃ j : Nat, xa = (j : Int) := ⟨xa.toNat, by omega⟩
          have HMO : Hid (mv l s k = ⟨op, (placeOf l s j : Int), xb, t, xc, xn⟩) := hid (by rw [HMV.out]; unfold moved; rw [if_pos hj]; simp)
          obtain ⟨bp3, op3, hap3, hpj⟩ := ints_read ((HP.out.below HOA.out.below).below (below_drewN (Below.refl _ _) nq)) (k := j) (by rw [HPL2.out]; omega)
          simp only [Option.some.injEq, Addr.mk.injEq] at hap3
          obtain ⟨rfl, rfl, _⟩ := hap3
          rw [placesL_at] at hpj
          have hjx : (j : Int) < ((placesL l s).length : Int) := by rw [HPL2.out]; omega
          generalize placeOf l s j = q at hpj HMO
          clear hj hja1
          have HFAR := hid (HOA.out.later (below_drewN (Below.refl _ _) nq) |>.set_far wr.heap.size 1 (.int .i64 (q : Int)) (fun k' hk' => by have := (HR.out.own.lt k' hk').2; omega) HR.out.below.size)
          go_wp2_with (at_builtin; refine wpList_append_lit_b w1 _ _ _ rfl _ _ 33 rfl 53 _ 6 72 1 Tryd.underlying33 infoOne rfl (by decide) _ _ _ HFAR.out rfl rfl ?_ rfl ?_ ?_ ?_ ?_)
          all_goals first | (intro v' w' ho hg _) | omega | (simp [Value.oneCell']; done) | skip
          have HO2 := hid (show Out w1 w' 53 6 v' (trimTo l s (k + 1)).length (cellsOf (trimTo l s (k + 1))) from by rw [HTY.out, List.length_append, cells_snoc, HMO.out]; exact ho)
          clear ho hg
          go_wp2
          go_roundw
          case rel => exact ⟨k + 1, by omega, by go_num, HO2⟩
          case measure => simp [intOf]; omega
      · have hps : placeOf l s (k + 1) = placeOf l s k := by rw [HPS.out, if_neg hkk]; rfl
        have HTN := hid (trim_no hkk)
        rw [hps] at hp1
        generalize placeOf l s k = p at hp0 hp1
        clear hkk hps hlen hple
        go_wp2_with fail
        go_quiet (fail)
        go_wp2
        go_roundw
        case rel => exact ⟨k + 1, by omega, by go_num, hid (by rw [HTN.out]; exact HOA.out.later (below_drewN (Below.refl _ _) _))⟩
        case measure => simp [intOf]; omega
    · obtain rfl : k = l.length := by omega
      have HX := hid (Out.since HB1.out HR.out)
      obtain ⟨at1, ct1, rfl⟩ := HR.out.sl.val
      clear HR
      go_wp2
      go_ret2
      exact ⟨_, _, rfl, HX.out⟩

end Go.Proofs.YtdnnnjedobknhaaDoor.trims
