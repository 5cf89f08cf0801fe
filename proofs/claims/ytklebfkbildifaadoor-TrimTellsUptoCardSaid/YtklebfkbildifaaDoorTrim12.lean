/- The law TrimTells: its walk. Conditions: the table lies in its variable; code and method are not long. -/
import Derived.Test.YtklebfkbildifaaDoorTrim4
import Derived.Test.YtklebfkbildifaaDoorSameM
import Derived.Test.YtklebfkbildifaaDoorHdl4
import Derived.Test.YtklebfkbildifaaDoorFlow2
import Derived.Test.YtklebfkbildifaaDoorErr
import Derived.Test.YtklebfkbildifaaDoorTrim7
import Derived.Test.YtklebfkbildifaaDoorTrim3
import Derived.Test.YtklebfkbildifaaDoorMSeen
import Derived.Test.YtklebfkbildifaaDoorCls1
namespace Go.Proofs.YtklebfkbildifaaDoor.trims
open Go.RowKit Go.Proofs.YtklebfkbildifaaDoor.lib Go.Proofs.YtklebfkbildifaaDoor.errs Go.Proofs.YtklebfkbildifaaDoor.names Go.Proofs.YtklebfkbildifaaDoor.descs Go.Proofs.YtklebfkbildifaaDoor.ins Go.Proofs.YtklebfkbildifaaDoor.reach Go.Proofs.YtklebfkbildifaaDoor.flows

/-- the places up to k -/
def plTo (l : List I) (s : List Bool) (k : Nat) : List Nat := (List.range (k + 1)).map (placeOf l s)
theorem plTo_len (l : List I) (s : List Bool) (k : Nat) : (plTo l s k).length = k + 1 := by simp [plTo]
theorem plTo_at {l : List I} {s : List Bool} {k i : Nat} (h : i < (plTo l s k).length) : (plTo l s k)[i] = placeOf l s i := by simp [plTo]
theorem plTo_succ (l : List I) (s : List Bool) (k : Nat) : plTo l s (k + 1) = plTo l s k ++ [placeOf l s (k + 1)] := by
  unfold plTo; rw [List.range_succ, List.map_append]; rfl
theorem plTo_all (l : List I) (s : List Bool) : plTo l s l.length = placesL l s := rfl
theorem kept_yes {l : List I} {s : List Bool} {k : Nat} (hk : k < l.length) (hs : s[k]? = some true) (ho : ¬ l[k].op = 1) : kept l s k = true := by
  rw [kept_at hk, hs]; simp [ho]
theorem kept_no1 {l : List I} {s : List Bool} {k : Nat} (hk : k < l.length) (hs : ¬ s[k]? = some true) : ¬ kept l s k = true := by
  rw [kept_at hk]; simp [hs]
theorem kept_no2 {l : List I} {s : List Bool} {k : Nat} (hk : k < l.length) (ho : l[k].op = 1) : ¬ kept l s k = true := by
  rw [kept_at hk]; simp [ho]

set_option maxRecDepth 100000 in
set_option maxHeartbeats 4000000 in
theorem rplaces_any (va vk : Value) (l : List I) (s : List Bool) (w : World) (ha : Go.Proofs.YtklebfkbildifaaDoor.flows.Code w va l) (hk : Sl w vk s.length 1 (bools s)) (hl : s.length = l.length) (hn : l.length ≤ 2000000) :
    Calls Tryd.prog 50 #[va, vk] w fun e w' => ∃ v, e = .returned v ∧ Out w w' 3 1 v (placesL l s).length (nats (placesL l s)) := by
  obtain ⟨a, c, rfl⟩ := ha.val
  obtain ⟨a2, c2, rfl⟩ := hk.val
  have HA := hid ha; have HK := hid hk; have HLE := hid hl
  have HO0 : Hid (Out w (w.alloc (.cells #[.int .i64 0] 3)) 3 1 (.slice (some ⟨w.heap.size, 0, none⟩) 1 1) 1 (nats (plTo l s 0))) := hid (Out.lit w #[.int .i64 0] 3 1 1 rfl (by decide))
  clear ha hk hl
  go_enter Tryd.func50, Tryd.ntmps50
  go_wp2_with fail
  go_loopw [5, 6] (fun v i wr => ∃ k : Nat, k ≤ l.length ∧ i = .int .i64 k ∧ slen v = k + 1 ∧ Hid (Out w wr 3 1 v (k + 1) (nats (plTo l s k)))) (fun _ i _ => l.length - (intOf i).toNat)
  case atStart => exact ⟨0, Nat.zero_le _, rfl, rfl, HO0⟩
  case round =>
    obtain ⟨k, hk, rfl, hsl, HO⟩ := hrel
    obtain ⟨av, cv, hvv⟩ := HO.out.sl.val
    subst hvv
    clear hsl HO0
    by_cases hlt : k < l.length
    · have hsl : k < s.length := by have := HLE.out; omega
      obtain ⟨b, off, hab, hc0, _⟩ := code_at (HA.out.below HO.out.below) hlt
      subst hab
      obtain ⟨b2, off2, hab2, u2, hu2, hd0⟩ := Sl.at1 (HK.out.below HO.out.below) hsl
      subst hab2
      rw [bools_at hsl] at hu2
      obtain rfl := Option.some.inj hu2
      clear hu2
      have hso : Sl wr (.slice av (plTo l s k).length cv) (plTo l s k).length 1 (nats (plTo l s k)) := by rw [plTo_len]; exact HO.out.sl
      have hpk : k < (plTo l s k).length := by rw [plTo_len]; omega
      obtain ⟨b3, off3, hab3, he0⟩ := ints_read hso hpk
      subst hab3
      rw [plTo_at] at he0
      have hi : (0 : Int) ≤ (k : Int) := by omega
      have hkl : (k : Int) < (l.length : Int) := by omega
      have hks : (k : Int) < (s.length : Int) := by omega
      have hk1 : (k : Int) < (k : Int) + 1 := by omega
      have hk1n : k < k + 1 := by omega
      have HPS := hid (place_succ l s k)
      have HPT := hid (plTo_succ l s k)
      have hple := place_le l s k
      have HY := hid (fun h1 h2 => kept_yes (s := s) hlt h1 h2)
      have HN1 := hid (fun h1 => kept_no1 (s := s) hlt h1)
      have HN2 := hid (fun h1 => kept_no2 (s := s) hlt h1)
      have HSK : Hid (s[k]? = some s[k]) := hid (List.getElem?_eq_getElem hsl)
      clear hso hpk
      generalize l[k] = x at hc0 HY HN1 HN2
      obtain ⟨op, xa, xb, t, xc, xn⟩ := x
      simp only at hc0 HY HN2
      generalize s[k] = bk at hd0 HSK
      generalize placeOf l s k = p at he0 HPS hple
      have hp0 : p ≤ 2000000 := by omega
      cases bk with
      | false =>
        have HQ : Hid (placeOf l s (k + 1) = p) := hid (by rw [HPS.out, if_neg (HN1.out (by rw [HSK.out]; simp))]; rfl)
        go_wp2_with (at_builtin; refine wpList_append_lit w _ _ rfl _ _ 46 rfl 3 (.int .i64 0) 1 8 1 Tryd.underlying46 infoInt rfl (by decide) _ _ _ HO.out rfl rfl rfl ?_ ?_ ?_ ?_)
        all_goals first | (intro v' w' ho hg) | omega | (simp [Value.oneCell']; done) | skip
        have HO2 : Hid (Out w w' 3 1 v' (k + 1 + 1) (nats (plTo l s (k + 1)))) := hid (by rw [HPT.out, nats_append, HQ.out]; exact ho)
        obtain ⟨av', cv', hvv'⟩ := ho.sl.val
        subst hvv'
        clear ho hg
        go_wp2
        go_roundw
        case rel => exact ⟨k + 1, by omega, by go_num, rfl, HO2⟩
        case measure => simp [intOf]; omega
      | true =>
        by_cases ho1 : op = 1
        · have HQ : Hid (placeOf l s (k + 1) = p) := hid (by rw [HPS.out, if_neg (HN2.out ho1)]; rfl)
          subst ho1
          go_wp2_with (at_builtin; refine wpList_append_lit w _ _ rfl _ _ 46 rfl 3 (.int .i64 0) 1 8 1 Tryd.underlying46 infoInt rfl (by decide) _ _ _ HO.out rfl rfl rfl ?_ ?_ ?_ ?_)
          all_goals first | (intro v' w' ho hg) | omega | (simp [Value.oneCell']; done) | skip
          have HO2 : Hid (Out w w' 3 1 v' (k + 1 + 1) (nats (plTo l s (k + 1)))) := hid (by rw [HPT.out, nats_append, HQ.out]; exact ho)
          obtain ⟨av', cv', hvv'⟩ := ho.sl.val
          subst hvv'
          clear ho hg
          go_wp2
          go_roundw
          case rel => exact ⟨k + 1, by omega, by go_num, rfl, HO2⟩
          case measure => simp [intOf]; omega
        · have HQ : Hid (placeOf l s (k + 1) = p + 1) := hid (by rw [HPS.out, if_pos (HY.out HSK.out ho1)])
          have n1 : (op == 1) = false := by simpa using ho1
          have n2 : (op != 1) = true := by simpa using ho1
          go_wp2_with (at_builtin; refine wpList_append_lit w _ _ rfl _ _ 46 rfl 3 (.int .i64 0) 1 8 1 Tryd.underlying46 infoInt rfl (by decide) _ _ _ HO.out rfl rfl rfl ?_ ?_ ?_ ?_)
          all_goals first | (intro v' w' ho hg) | omega | (simp [Value.oneCell']; done) | skip
          have HO2 : Hid (Out w w' 3 1 v' (k + 1 + 1) (nats (plTo l s (k + 1)))) := hid (by rw [HPT.out, nats_append, HQ.out]; exact ho)
          obtain ⟨av', cv', hvv'⟩ := ho.sl.val
          subst hvv'
          clear ho hg
          go_wp2
          go_roundw
          case rel => exact ⟨k + 1, by omega, by go_num, rfl, HO2⟩
          case measure => simp [intOf]; omega
    · obtain rfl : k = l.length := by omega
      have HX : Hid (Out w wr 3 1 (.slice av (l.length + 1) cv) (placesL l s).length (nats (placesL l s))) := hid (by rw [placesL_len, ← plTo_all]; exact HO.out)
      go_wp2
      go_ret
      exact ⟨_, rfl, HX.out⟩
set_option maxRecDepth 100000 in
set_option maxHeartbeats 8000000 in
theorem rcode_any (va vk : Value) (l : List I) (s : List Bool) (w : World) (ha : Go.Proofs.YtklebfkbildifaaDoor.flows.Code w va l) (hk : Sl w vk s.length 1 (bools s)) (hl : s.length = l.length) (hn : l.length ≤ 2000000) (hJ : ∀ x ∈ l, jumpsOp x.op = true → 0 ≤ x.a ∧ x.a ≤ (l.length : Int)) :
    Calls Tryd.prog 19 #[va, vk] w fun e w' => ∃ v, e = .returned v ∧ Out w w' 33 6 v (trimOf l s).length (cellsOf (trimOf l s)) := by
  have HPL := hid (rplaces_any va vk l s w ha hk hl hn)
  obtain ⟨a, c, rfl⟩ := ha.val
  obtain ⟨a2, c2, rfl⟩ := hk.val
  have HA := hid ha; have HJ := hid hJ
  clear ha hk hJ hl
  go_enter Tryd.func19, Tryd.ntmps19
  go_wp2_with fail
  refine HPL.out.mono ?_
  rintro e w1 ⟨vp, rfl, hop⟩
  have HP := hid hop.sl
  have HB1 := hid hop.below
  have hpl := placesL_len l s
  obtain ⟨a3, c3, rfl⟩ := hop.sl.val
  have HPL2 := hid hpl
  clear hop hpl
  go_wp2_with fail
  go_loopw [6, 7] (fun vt i wr => ∃ k : Nat, k ≤ l.length ∧ i = .int .i64 k ∧ Hid (Out w1 wr 33 6 vt (trimTo l s k).length (cellsOf (trimTo l s k)))) (fun _ i _ => l.length - (intOf i).toNat)
  case atStart => exact ⟨0, Nat.zero_le _, rfl, hid (Out.nil _ _ _)⟩
  case round =>
    obtain ⟨k, hk, rfl, HR⟩ := hrel
    by_cases hlt : k < l.length
    · have hi : (0 : Int) ≤ (k : Int) := by omega
      have hkl : (k : Int) < (l.length : Int) := by omega
      have hkx : (k : Int) < ((placesL l s).length : Int) := by rw [HPL2.out]; omega
      have hkx2 : (k : Int) + 1 < ((placesL l s).length : Int) := by rw [HPL2.out]; omega
      have hkx3 : (0 : Int) ≤ (k : Int) + 1 := by omega
      have k7 : ((k : Int) + 1).toNat = k + 1 := by omega
      have k8 : IntKind.i64.wrap ((k : Int) + 1) = (k : Int) + 1 := by rw [IntKind.wrap_i64]; omega
      have HJX := hid (HJ.out _ (List.getElem_mem hlt))
      have HMV := hid (mv_at (s := s) hlt)
      have HPS := hid (place_succ l s k)
      have hlen := trim_len l s k
      have hple := place_le l s k
      obtain ⟨av, cv, hvv⟩ := HR.out.sl.val
      subst hvv
      obtain ⟨bp, op1, hap, hp0⟩ := ints_read (HP.out.below HR.out.below) (k := k) (by rw [HPL2.out]; omega)
      subst hap
      obtain ⟨bp2, op2, hap2, hp1⟩ := ints_read (HP.out.below HR.out.below) (k := k + 1) (by rw [HPL2.out]; omega)
      simp only [Option.some.injEq, Addr.mk.injEq] at hap2
      obtain ⟨rfl, rfl, _⟩ := hap2
      rw [placesL_at] at hp0 hp1
      have hlb : (trimTo l s k).length ≤ 2000000 := by omega
      by_cases hkk : kept l s k = true
      · have hps : placeOf l s (k + 1) = placeOf l s k + 1 := by rw [HPS.out, if_pos hkk]
        have HTY := hid (trim_yes hkk)
        rw [hps] at hp1
        generalize placeOf l s k = p at hp0 hp1
        have hne : ((p : Int) == ((p + 1 : Nat) : Int)) = false := beq_eq_false_iff_ne.2 (by omega)
        have hne2 : ¬ (p : Int) = ((p + 1 : Nat) : Int) := by omega
        clear hkk hps hlen hple
        go_wp2_with fail
        go_quiet (fail)
        obtain ⟨wd, hwd⟩ : ∃ wd, wr.drewN nq = wd := ⟨_, rfl⟩
        have HBD : Hid (Below wr.heap.size wr wd) := hid (by rw [← hwd]; exact below_drewN (Below.refl _ _) nq)
        rw [hwd]
        clear hwd
        obtain ⟨b, off, hab, hc0, hc1, hc2, hc3, hc4, hc5⟩ := code_at (((HA.out.below HB1.out).below HR.out.below).below HBD.out) hlt
        subst hab
        generalize l[k] = x at hc0 hc1 hc2 hc3 hc4 hc5 HJX HMV
        obtain ⟨op, xa, xb, t, xc, xn⟩ := x
        simp only at hc0 hc1 hc2 hc3 hc4 hc5 HJX
        have HOD := hid (HR.out.later HBD.out)
        go_wp2_with fail
        refine (rjumps_any op _).mono ?_
        rintro e wj ⟨rfl, rfl⟩
        clear hc0 hc1 hc2 hc3 hc4 hc5
        cases hj : jumpsOp op with
        | false =>
          have HMO : Hid (mv l s k = ⟨op, xa, xb, t, xc, xn⟩) := hid (by rw [HMV.out]; unfold moved; rw [if_neg (by rw [hj]; decide)])
          clear hj
          go_wp2_with (at_builtin; refine wpList_append_lit_b w1 _ _ _ rfl _ _ 22 rfl 33 _ 6 72 1 Tryd.underlying22 infoOne rfl (by decide) _ _ _ (HOD.out.alloc _) rfl rfl ?_ rfl ?_ ?_ ?_ ?_)
          all_goals first | (intro v' w' ho hg _) | omega | (simp [Value.oneCell']; done) | skip
          have HO2 := hid (show Out w1 w' 33 6 v' (trimTo l s (k + 1)).length (cellsOf (trimTo l s (k + 1))) from by rw [HTY.out, List.length_append, cells_snoc, HMO.out]; exact ho)
          clear ho hg
          go_wp2
          go_roundw
          case rel => exact ⟨k + 1, by omega, by go_num, HO2⟩
          case measure => simp [intOf]; omega
        | true =>
          obtain ⟨hja0, hja1⟩ := HJX.out hj
          obtain ⟨j, rfl⟩ : ∃ j : Nat, xa = (j : Int) := ⟨xa.toNat, by omega⟩
          have HMO : Hid (mv l s k = ⟨op, (placeOf l s j : Int), xb, t, xc, xn⟩) := hid (by rw [HMV.out]; unfold moved; rw [if_pos hj]; simp)
          obtain ⟨bp3, op3, hap3, hpj⟩ := ints_read ((HP.out.below HR.out.below).below HBD.out) (k := j) (by rw [HPL2.out]; omega)
          simp only [Option.some.injEq, Addr.mk.injEq] at hap3
          obtain ⟨rfl, rfl, _⟩ := hap3
          rw [placesL_at] at hpj
          have hjx : (j : Int) < ((placesL l s).length : Int) := by rw [HPL2.out]; omega
          generalize placeOf l s j = q at hpj HMO
          have hbp := World.block_lt_of_cell? _ _ hpj
          have hpj2 : (wd.alloc (.cells #[.int .i64 op, .int .i64 (j : Int), .int .i64 xb, .string t, .string xc, .string xn] 33)).cell? ⟨bp, op1 + j, none⟩ = some (.int .i64 (q : Int)) := by
            rw [World.cell?_alloc_lt _ _ _ hbp]; exact hpj
          clear hj hja1 hbp
          go_wp2_with (at_builtin; refine wpList_append_lit_b w1 _ _ _ rfl _ _ 22 rfl 33 _ 6 72 1 Tryd.underlying22 infoOne rfl (by decide) _ _ _ (HOD.out.alloc _) rfl rfl ?_ rfl ?_ ?_ ?_ ?_)
          all_goals first | (intro v' w' ho hg _) | omega | (simp [Value.oneCell']; done) | skip
          have HO2 := hid (show Out w1 w' 33 6 v' (trimTo l s (k + 1)).length (cellsOf (trimTo l s (k + 1))) from by rw [HTY.out, List.length_append, cells_snoc, HMO.out]; exact ho)
          clear ho hg
          go_wp2
          go_roundw
          case rel => exact ⟨k + 1, by omega, by go_num, HO2⟩
          case measure => simp [intOf]; omega
      · have hps : placeOf l s (k + 1) = placeOf l s k := by rw [HPS.out, if_neg hkk]; rfl
        have HTN := hid (trim_no hkk)
        rw [hps] at hp1
        generalize placeOf l s k = p at hp0 hp1
        clear hkk hps hlen hple
        go_wp2_with fail
        go_quiet (fail)
        go_wp2
        go_roundw
        case rel => exact ⟨k + 1, by omega, by go_num, hid (by rw [HTN.out]; exact HR.out.later (below_drewN (Below.refl _ _) _))⟩
        case measure => simp [intOf]; omega
    · obtain rfl : k = l.length := by omega
      have HX := hid (Out.since HB1.out HR.out)
      obtain ⟨at1, ct1, rfl⟩ := HR.out.sl.val
      clear HR
      go_wp2
      go_ret
      exact ⟨_, rfl, HX.out⟩
end Go.Proofs.YtklebfkbildifaaDoor.trims

namespace Go.Proofs.YtklebfkbildifaaDoor.trims
open Go.RowKit Go.Proofs.YtklebfkbildifaaDoor.lib Go.Proofs.YtklebfkbildifaaDoor.errs Go.Proofs.YtklebfkbildifaaDoor.names Go.Proofs.YtklebfkbildifaaDoor.descs Go.Proofs.YtklebfkbildifaaDoor.ins Go.Proofs.YtklebfkbildifaaDoor.reach Go.Proofs.YtklebfkbildifaaDoor.flows Go.Proofs.YtklebfkbildifaaDoor.hdls Go.Proofs.YtklebfkbildifaaDoor.mseen Go.Proofs.YtklebfkbildifaaDoor.classes

/-- what the first k handlers add -/
def firedAll (s : List Bool) (hs : List Hd) (k : Nat) : List Nat := (hs.take k).flatMap (fired s)
theorem firedAll_zero (s : List Bool) (hs : List Hd) : firedAll s hs 0 = [] := by simp [firedAll]
theorem firedAll_succ {s : List Bool} {hs : List Hd} {k : Nat} (hk : k < hs.length) : firedAll s hs (k + 1) = firedAll s hs k ++ fired s hs[k] := by
  unfold firedAll; rw [List.take_succ_eq_append_getElem hk, List.flatMap_append]; simp
theorem firedAll_all (s : List Bool) (hs : List Hd) : firedAll s hs hs.length = hs.flatMap (fired s) := by unfold firedAll; rw [List.take_length]
theorem firedAll_len {s : List Bool} {hs : List Hd} {n : Nat} (hH : ∀ h ∈ hs, h.to.toNat ≤ n) : ∀ k, (firedAll s hs k).length ≤ k * n
  | 0 => by simp [firedAll]
  | k + 1 => by
    by_cases hk : k < hs.length
    · rw [firedAll_succ hk, List.length_append, Nat.succ_mul]
      have h1 := firedAll_len (s := s) hH k
      have h2 : (fired s hs[k]).length ≤ hs[k].to.toNat := firedTo_len s hs[k] hs[k].to.toNat
      have h3 := hH _ (List.getElem_mem hk)
      omega
    · have : firedAll s hs (k + 1) = firedAll s hs k := by unfold firedAll; rw [List.take_of_length_le (by omega), List.take_of_length_le (by omega)]
      rw [this, Nat.succ_mul]
      have := firedAll_len (s := s) hH k
      omega

set_option maxRecDepth 100000 in
set_option maxHeartbeats 8000000 in
theorem rseen_any (nm ty : ByteArray) (st ab pr : Bool) (lo : Int) (vc vh : Value) (l : List I) (hs : List Hd) (w : World) (hc : Go.Proofs.YtklebfkbildifaaDoor.flows.Code w vc l) (hv : Hds w vh hs) (h0 : codeFault l = 0) (hH : ∀ h ∈ hs, hdIn l.length h = true) (h8 : hs.length ≤ 8) :
    Calls Tryd.prog 53 #[.agg #[.string nm, .string ty, .bool st, .bool ab, .bool pr, .int .i64 lo, vc, vh]] w fun e w' => ∃ v, e = .returned v ∧ Out w w' 4 1 v l.length (bools (mseen (succOf l) l.length hs)) := by
  obtain ⟨hR, hl0, hl40⟩ := right_of h0
  have hS := succ_lt hR
  obtain ⟨ac, cc, rfl⟩ := hc.val
  obtain ⟨ah, ch, rfl⟩ := hv.val
  obtain ⟨W0, hW0⟩ : ∃ W0, w.alloc (.cells #[.string nm, .string ty, .bool st, .bool ab, .bool pr, .int .i64 lo, .slice ac l.length cc, .slice ah hs.length ch] 25) = W0 := ⟨_, rfl⟩
  have HBX : Hid (W0.cell? ⟨w.heap.size, 6, none⟩ = some (.slice ac l.length cc) ∧ W0.cell? ⟨w.heap.size, 7, none⟩ = some (.slice ah hs.length ch)) := hid (by subst hW0; exact ⟨by rw [World.cell?_alloc_at _ _ _ _ rfl]; rfl, by rw [World.cell?_alloc_at _ _ _ _ rfl]; rfl⟩)
  have HB0 : Hid (Below w.heap.size w W0) := hid (by subst hW0; exact ext_alloc _ _)
  have HC := hid (hc.below HB0.out)
  have HV := hid (hv.below HB0.out)
  have HR := hid hR
  have HS := hid hS
  have HH := hid hH
  have H0L := hid hl0
  have HDN := hid (roundsF_done (hs := hs) hS hH hl0)
  have HRL := hid (fun r => roundsF_len (S := succOf l) (n := l.length) (hs := hs) hH r)
  have HRO := hid (fun r => roundsF_okay (hs := hs) hS hH hl0 r)
  have HO0 := hid (Out.lit W0 #[.int .i64 0] 3 1 1 rfl (by decide))
  have HTN : Hid (∀ h ∈ hs, h.to.toNat ≤ 40) := hid (fun h hh => by obtain ⟨_, _, _, _, h5⟩ := in_at hH hh; omega)
  clear hc hv h0 hH hR hS
  go_enter Tryd.func53, Tryd.ntmps53
  go_wp2_with fail
  go_loopw [3, 4] (fun vf i wr => ∃ r : Nat, r ≤ hs.length + 1 ∧ i = .int .i64 r ∧ slen vf = (roundsF (succOf l) l.length hs r).length ∧ Hid (Out W0 wr 3 1 vf (roundsF (succOf l) l.length hs r).length (nats (roundsF (succOf l) l.length hs r)))) (fun _ i _ => hs.length + 1 - (intOf i).toNat)
  case atStart => exact ⟨0, Nat.zero_le _, rfl, rfl, HO0⟩
  case round =>
    obtain ⟨r, hr, rfl, hsl, HO⟩ := hrel
    clear hW0 HO0
    obtain ⟨F, hF⟩ : ∃ F, roundsF (succOf l) l.length hs r = F := ⟨_, rfl⟩
    have HF := hid hF
    have HOK : Hid (Okay (succOf l) l.length hs F) := hid (by rw [← hF]; exact HRO.out r)
    have hfl : F.length ≤ 3000 := by
      have h1 := HRL.out r
      rw [hF] at h1
      have h2 : r * (hs.length * l.length) ≤ 9 * (8 * 40) := Nat.mul_le_mul (by omega) (Nat.mul_le_mul h8 hl40)
      omega
    rw [hF] at HO
    clear hF hsl
    obtain ⟨af, cf, hvf⟩ := HO.out.sl.val
    subst hvf
    have hm6 : wr.cell? ⟨w.heap.size, 6, none⟩ = some (.slice ac l.length cc) := by rw [HO.out.below.cell (World.block_lt_of_cell? _ _ HBX.out.1)]; exact HBX.out.1
    have hm7 : wr.cell? ⟨w.heap.size, 7, none⟩ = some (.slice ah hs.length ch) := by rw [HO.out.below.cell (World.block_lt_of_cell? _ _ HBX.out.2)]; exact HBX.out.2
    have HFR := hid (reached_any (.slice ac l.length cc) (.slice af F.length cf) l F wr (HC.out.below HO.out.below) HO.out.sl HR.out HOK.out.lt (by omega) (by omega))
    by_cases hrl : r ≤ hs.length
    · have hrl2 : (r : Int) ≤ (hs.length : Int) := by omega
      go_wp2_with fail
      refine HFR.out.mono ?_
      rintro e w2 ⟨v2, rfl, ho2⟩
      have HO2 := hid (HO.out.later ho2.below)
      have HAP : Hid (Apart (.slice af F.length cf) v2) := hid (fun k h1 h2 => by
        have h3 := (HO.out.own.lt k h1).2
        have h4 := (ho2.own.lt k h2).1
        omega)
      have HSN := hid (Out.since HO.out.below ho2)
      obtain ⟨s, hs_⟩ : ∃ s, reached (succOf l) l.length F = s := ⟨_, rfl⟩
      have HSE := hid hs_
      rw [hs_] at HSN
      have hslen : s.length = l.length := by rw [← hs_]; exact reached_len HS.out
      obtain ⟨a2, c2, hv2⟩ := ho2.sl.val
      subst hv2
      clear ho2 hs_ hm6 hm7 hrl2
      go_wp2_with fail
      go_loopw [3, 6] (fun vf i w3 => ∃ k : Nat, k ≤ hs.length ∧ i = .int .i64 k ∧ slen vf = (F ++ firedAll s hs k).length ∧ Hid (Out W0 w3 3 1 vf (F ++ firedAll s hs k).length (nats (F ++ firedAll s hs k))) ∧ Hid (Out W0 w3 4 1 (.slice a2 l.length c2) l.length (bools s)) ∧ Hid (Apart vf (.slice a2 l.length c2))) (fun _ i _ => hs.length - (intOf i).toNat)
      case atStart =>
        refine ⟨0, Nat.zero_le _, rfl, ?_, ?_, HSN, HAP⟩
        · rw [firedAll_zero, List.append_nil]; rfl
        · rw [firedAll_zero, List.append_nil]; exact HO2
      case round =>
        obtain ⟨k, hk, rfl, hsl3, HO3, HS3, HA3⟩ := hrel
        clear HO2 HSN HAP
        obtain ⟨FK, hFK⟩ : ∃ FK, F ++ firedAll s hs k = FK := ⟨_, rfl⟩
        have HFK := hid hFK
        have hq : FK.length ≤ 3320 := by
          have h1 := firedAll_len (s := s) HTN.out k
          have h2 : k * 40 ≤ 8 * 40 := Nat.mul_le_mul (by omega) (Nat.le_refl _)
          rw [← hFK, List.length_append]; omega
        rw [hFK] at HO3
        clear hFK hsl3
        obtain ⟨af3, cf3, hvf3⟩ := HO3.out.sl.val
        subst hvf3
        have hm7 : wr.cell? ⟨w.heap.size, 7, none⟩ = some (.slice ah hs.length ch) := by rw [HO3.out.below.cell (World.block_lt_of_cell? _ _ HBX.out.2)]; exact HBX.out.2
        by_cases hlt : k < hs.length
        · obtain ⟨b, off, hab, hc0, hc1, hc2, hc3⟩ := hd_at (HV.out.below HO3.out.below) hlt
          subst hab
          have hi : (0 : Int) ≤ (k : Int) := by omega
          have hkl : (k : Int) < (hs.length : Int) := by omega
          obtain ⟨hat, hat0, hf0, hft, hto⟩ := in_at HH.out (List.getElem_mem hlt)
          have HNX := hid (firedAll_succ (s := s) hlt)
          generalize hs[k] = x at hc0 hc1 hc2 hc3 hat hat0 hf0 hft hto HNX
          obtain ⟨fr, to, at_, cls⟩ := x
          simp only at hc0 hc1 hc2 hc3 hat hat0 hf0 hft hto
          obtain ⟨A, rfl⟩ : ∃ A : Nat, at_ = (A : Int) := ⟨at_.toNat, by omega⟩
          obtain ⟨G, rfl⟩ : ∃ G : Nat, fr = (G : Int) := ⟨fr.toNat, by omega⟩
          obtain ⟨T, rfl⟩ : ∃ T : Nat, to = (T : Int) := ⟨to.toNat, by omega⟩
          have hA : A < l.length := by omega
          obtain ⟨W4, hW4⟩ : ∃ W4, wr.alloc (.cells #[.int .i64 (G : Int), .int .i64 (T : Int), .int .i64 (A : Int), .string cls] 35) = W4 := ⟨_, rfl⟩
          have HE3 : Hid (Below wr.heap.size wr W4) := hid (by subst hW4; exact ext_alloc _ _)
          have HH4 : Hid (Out W0 W4 35 4 (.slice (some ⟨wr.heap.size, 0, none⟩) 1 1) 1 [.int .i64 (G : Int), .int .i64 (T : Int), .int .i64 (A : Int), .string cls]) := hid (by
            subst hW4; exact Out.since HO3.out.below (Out.lit wr #[.int .i64 (G : Int), .int .i64 (T : Int), .int .i64 (A : Int), .string cls] 35 1 4 rfl (by decide)))
          have HO4 := hid (HO3.out.later HE3.out)
          have HS4 := hid (HS3.out.later HE3.out)
          have HP4 : Hid (Apart (.slice af3 FK.length cf3) (.slice (some ⟨wr.heap.size, 0, none⟩) 1 1)) := hid (fun k' h1 h2 => by
            have h3 := (HO3.out.own.lt k' h1).2
            have h4 : wr.heap.size = k' := Option.some.inj h2
            omega)
          obtain ⟨B, hB⟩ : ∃ B, wr.heap.size = B := ⟨_, rfl⟩
          have e0 : W4.cell? ⟨B, 0, none⟩ = some (.int .i64 (G : Int)) := by rw [← hB, ← hW4, World.cell?_alloc_at _ _ _ _ rfl]; rfl
          rw [hB] at HH4 HP4
          go_wp2_with fail
          clear hc0 hc1 hc2 hc3 hm7 hW4 hB e0 HE3
          go_loopw [3, 8] (fun vf i w5 => ∃ j : Nat, G ≤ j ∧ j ≤ T ∧ i = .int .i64 j ∧ slen vf = (FK ++ firedTo s ⟨(G : Int), (T : Int), (A : Int), cls⟩ j).length ∧ Hid (Out W0 w5 3 1 vf (FK ++ firedTo s ⟨(G : Int), (T : Int), (A : Int), cls⟩ j).length (nats (FK ++ firedTo s ⟨(G : Int), (T : Int), (A : Int), cls⟩ j))) ∧ Hid (Out W0 w5 4 1 (.slice a2 l.length c2) l.length (bools s)) ∧ Hid (Apart vf (.slice a2 l.length c2)) ∧ Hid (Out W0 w5 35 4 (.slice (some ⟨B, 0, none⟩) 1 1) 1 [.int .i64 (G : Int), .int .i64 (T : Int), .int .i64 (A : Int), .string cls]) ∧ Hid (Apart vf (.slice (some ⟨B, 0, none⟩) 1 1))) (fun _ i _ => T - (intOf i).toNat)
          case atStart =>
            refine ⟨G, Nat.le_refl _, by omega, rfl, ?_, ?_, HS4, HA3, HH4, HP4⟩
            · rw [firedTo_start _ _ _ (Int.le_refl _), List.append_nil]; rfl
            · rw [firedTo_start _ _ _ (Int.le_refl _), List.append_nil]; exact HO4
          case round =>
            obtain ⟨j, hGj, hjT, rfl, hsl5, HO5, HS5, HA5, HH5, HP5⟩ := hrel
            clear HO4 HS4 HH4 HP4
            obtain ⟨FJ, hFJ⟩ : ∃ FJ, FK ++ firedTo s ⟨(G : Int), (T : Int), (A : Int), cls⟩ j = FJ := ⟨_, rfl⟩
            have HFJ := hid hFJ
            have hqj : FJ.length ≤ 3400 := by
              have h1 := firedTo_len s ⟨(G : Int), (T : Int), (A : Int), cls⟩ j
              rw [← hFJ, List.length_append]; omega
            rw [hFJ] at HO5
            clear hFJ hsl5
            obtain ⟨af5, cf5, hvf5⟩ := HO5.out.sl.val
            subst hvf5
            have hcell : ∀ q u, [Value.int .i64 (G : Int), .int .i64 (T : Int), .int .i64 (A : Int), .string cls][q]? = some u → wr.cell? ⟨B, q, none⟩ = some u := fun q u hu => by
              obtain ⟨_, a', c', he, _, h⟩ := HH5.out.sl
              simp only [Value.slice.injEq] at he
              obtain ⟨rfl, _, _⟩ := he
              rcases h with h | ⟨b', off', h1, h2⟩
              · cases h
              · simp only [Option.some.injEq, Addr.mk.injEq] at h1
                obtain ⟨rfl, rfl, _⟩ := h1
                have := h2 q u hu
                rwa [Nat.zero_add] at this
            have e1 := hcell 1 _ rfl
            have e2 := hcell 2 _ rfl
            clear hcell
            by_cases hjt : j < T
            · have hj0 : (0 : Int) ≤ (j : Int) := by omega
              have hjT2 : (j : Int) < (T : Int) := by omega
              have hjl : (j : Int) < (l.length : Int) := by omega
              have hjn : j < s.length := by omega
              obtain ⟨bj, oj, hbj, hcj⟩ := Out.bool_at HS5.out (k := j) hjn hslen
              subst hbj
              have HSJ : Hid (s[j]? = some s[j]) := hid (List.getElem?_eq_getElem hjn)
              have hGj2 : (G : Int) ≤ (j : Int) := by omega
              have HY := hid (fun h => firedTo_yes (s := s) (h := ⟨(G : Int), (T : Int), (A : Int), cls⟩) hGj2 h)
              have HN := hid (fun h => firedTo_no (s := s) (h := ⟨(G : Int), (T : Int), (A : Int), cls⟩) (k := j) h)
              generalize s[j] = bo at hcj HSJ
              clear hjn
              cases bo with
              | false =>
                have HE : Hid (FK ++ firedTo s ⟨(G : Int), (T : Int), (A : Int), cls⟩ (j + 1) = FJ) := hid (by rw [HN.out (by rw [HSJ.out]; simp)]; exact HFJ.out)
                go_wp2_with fail
                go_roundw
                case rel => exact ⟨j + 1, by omega, by omega, by go_num, by rw [HE.out]; rfl, hid (by rw [HE.out]; exact HO5.out), HS5, HA5, HH5, HP5⟩
                case measure => simp [intOf]; omega
              | true =>
                have HE : Hid (FK ++ firedTo s ⟨(G : Int), (T : Int), (A : Int), cls⟩ (j + 1) = FJ ++ [A]) := hid (by rw [HY.out HSJ.out, ← List.append_assoc, HFJ.out]; rfl)
                go_wp2_with (at_builtin; refine wpList_append_lit_at W0 wr _ rfl _ _ 46 rfl 3 (.int .i64 0) 1 8 1 Tryd.underlying46 infoInt rfl (by decide) _ _ _ HO5.out rfl rfl rfl ?_ ?_ ?_ ?_)
                all_goals first | (intro v1' wa ho1 hg1 hat1) | omega | (simp [Value.oneCell']; done) | skip
                have HS6 := hid (HO5.out.beside HS5.out HA5.out hg1)
                have HA6 := hid (HA5.out.step HS5.out hat1)
                have HH6 := hid (HO5.out.beside HH5.out HP5.out hg1)
                have HP6 := hid (HP5.out.step HH5.out hat1)
                obtain ⟨a6, c6, hv6⟩ := ho1.sl.val
                subst hv6
                have HO6 : Hid (Out W0 wa 3 1 (.slice a6 (FJ.length + 1) c6) (FJ ++ [A]).length (nats (FJ ++ [A]))) := hid (by rw [nats_append, List.length_append]; exact ho1)
                clear ho1 hg1 hat1
                go_wp2_with fail
                go_roundw
                case rel => exact ⟨j + 1, by omega, by omega, by go_num, by rw [HE.out, List.length_append]; rfl, hid (by rw [HE.out]; exact HO6.out), HS6, HA6, HH6, HP6⟩
                case measure => simp [intOf]; omega
            · obtain rfl : j = T := by omega
              have HE : Hid (F ++ firedAll s hs (k + 1) = FJ) := hid (by rw [HNX.out, ← List.append_assoc, HFK.out]; exact HFJ.out)
              have hge : ¬ (j : Int) < (j : Int) := by omega
              go_wp2_with fail
              go_roundw
              case rel => exact ⟨k + 1, by omega, by go_num, by rw [HE.out]; rfl, hid (by rw [HE.out]; exact HO5.out), HS5, HA5⟩
              case measure => simp [intOf]; omega
        · obtain rfl : k = hs.length := by omega
          have HE : Hid (roundsF (succOf l) l.length hs (r + 1) = FK) := hid (by
            show roundF (succOf l) l.length hs (roundsF (succOf l) l.length hs r) = FK
            rw [HF.out, ← HFK.out, firedAll_all, ← HSE.out])
          go_wp2_with fail
          go_roundw
          case rel => exact ⟨r + 1, by omega, by go_num, by rw [HE.out]; rfl, hid (by rw [HE.out]; exact HO3.out)⟩
          case measure => simp [intOf]; omega
    · have hre : r = hs.length + 1 := by omega
      have HQ : Hid (reached (succOf l) l.length F = mseen (succOf l) l.length hs) := hid (by rw [← HF.out, hre]; exact HDN.out)
      have hgt : ¬ (r : Int) ≤ (hs.length : Int) := by omega
      clear hre
      go_wp2_with fail
      refine HFR.out.mono ?_
      rintro e w2 ⟨v2, rfl, ho2⟩
      have HX : Hid (Out w w2 4 1 v2 l.length (bools (mseen (succOf l) l.length hs))) := hid (by rw [← HQ.out]; exact Out.since (HB0.out.trans (HO.out.below.mono HB0.out.size)) ho2)
      clear ho2
      go_wp2_with fail
      go_ret
      exact ⟨_, rfl, HX.out⟩
end Go.Proofs.YtklebfkbildifaaDoor.trims

namespace Go.Proofs.YtklebfkbildifaaDoor.trims
open Go.RowKit Go.Proofs.YtklebfkbildifaaDoor.lib Go.Proofs.YtklebfkbildifaaDoor.errs Go.Proofs.YtklebfkbildifaaDoor.names Go.Proofs.YtklebfkbildifaaDoor.descs Go.Proofs.YtklebfkbildifaaDoor.ins Go.Proofs.YtklebfkbildifaaDoor.reach Go.Proofs.YtklebfkbildifaaDoor.flows Go.Proofs.YtklebfkbildifaaDoor.hdls Go.Proofs.YtklebfkbildifaaDoor.mseen Go.Proofs.YtklebfkbildifaaDoor.classes Go.Proofs.YtklebfkbildifaaDoor.grow Go.Proofs.YtklebfkbildifaaDoor.keep

set_option maxRecDepth 100000 in
set_option maxHeartbeats 8000000 in
theorem rtm_any (nm ty : ByteArray) (st ab pr : Bool) (lo : Int) (vc vh : Value) (l : List I) (hs : List Hd) (w : World) (hc : Go.Proofs.YtklebfkbildifaaDoor.flows.Code w vc l) (hv : Hds w vh hs) (h0 : codeFault l = 0) (h1 : hdFault l.length hs = 0) (h8 : hs.length ≤ 8) :
    Calls Tryd.prog 23 #[.agg #[.string nm, .string ty, .bool st, .bool ab, .bool pr, .int .i64 lo, vc, vh]] w fun e w' => ∃ v6 v7, e = .returned (.agg #[.string nm, .string ty, .bool st, .bool ab, .bool pr, .int .i64 lo, v6, v7]) ∧
      Go.Proofs.YtklebfkbildifaaDoor.flows.Code w' v6 (trimOf l (mseen (succOf l) l.length hs)) ∧ Hds w' v7 (hdsTo l (mseen (succOf l) l.length hs) hs hs.length) ∧ (∀ k, v6.ownBlock = some k → w.heap.size ≤ k) ∧ (∀ k, v7.ownBlock = some k → w.heap.size ≤ k) ∧ Below w.heap.size w w' := by
  obtain ⟨hR, hl0, hl40⟩ := right_of h0
  obtain ⟨ac, cc, rfl⟩ := hc.val
  obtain ⟨ah, ch, rfl⟩ := hv.val
  have HHI := hid (hd_all h1)
  have HJ := hid (jumps_in h0)
  obtain ⟨s, hs_⟩ : ∃ s, mseen (succOf l) l.length hs = s := ⟨_, rfl⟩
  have HSLEN : Hid (s.length = l.length) := hid (by rw [← hs_]; exact mseen_len _ _ _)
  rw [hs_]
  have HSE := hid hs_
  have HSN := hid (fun (u : World) (h : Below w.heap.size w u) => rseen_any nm ty st ab pr lo (.slice ac l.length cc) (.slice ah hs.length ch) l hs u (hc.below h) (hv.below h) h0 HHI.out h8)
  rw [hs_] at HSN
  clear hs_
  obtain ⟨W0, hW0⟩ : ∃ W0, w.alloc (.cells #[.string nm, .string ty, .bool st, .bool ab, .bool pr, .int .i64 lo, .slice ac l.length cc, .slice ah hs.length ch] 25) = W0 := ⟨_, rfl⟩
  obtain ⟨W1, hW1⟩ : ∃ W1, W0.alloc (.cells #[.string { data := #[] }, .string { data := #[] }, .bool false, .bool false, .bool false, .int .i64 0, .slice none 0 0, .slice none 0 0] 25) = W1 := ⟨_, rfl⟩
  have HRS : Hid (W1.heap[W0.heap.size]? = some (.cells #[.string { data := #[] }, .string { data := #[] }, .bool false, .bool false, .bool false, .int .i64 0, .slice none 0 0, .slice none 0 0] 25)) := hid (by subst hW1; exact heap_alloc_new _ _)
  have HBX : Hid (W1.heap[w.heap.size]? = some (.cells #[.string nm, .string ty, .bool st, .bool ab, .bool pr, .int .i64 lo, .slice ac l.length cc, .slice ah hs.length ch] 25)) := hid (by subst hW1 hW0; exact heap_alloc2_old _ _ _)
  have HBR := hid (show W0.heap.size < W1.heap.size ∧ w.heap.size < W0.heap.size from by subst hW1 hW0; simp only [World.size_alloc]; omega)
  have HBD := hid (show Below w.heap.size w W1 from by subst hW1 hW0; exact (ext_alloc w _).alloc (ext_alloc w _).size _)
  have HC := hid hc
  have HV := hid hv
  clear hc hv
  go_enter Tryd.func23, Tryd.ntmps23
  go_wp2_with (refine wpList_load_row rfl 25 (.tmp 1) rfl w.heap.size rfl _ _ _ _ HBX.out Tryd.underlying25 rfl (by kernel_rfl) ?_)
  refine (HSN.out W1 HBD.out).mono ?_
  rintro e w2 ⟨vs, rfl, hos⟩
  have hos' : Out W1 w2 4 1 vs s.length (bools s) := by rw [HSLEN.out]; exact hos
  clear hos
  have HS2 := hid hos'.sl
  have HX2 := hid ((hos'.below.block _ (Nat.lt_trans HBR.out.2 HBR.out.1)).trans HBX.out)
  have HR2 := hid ((hos'.below.block _ HBR.out.1).trans HRS.out)
  have HB2 := hid (HBD.out.trans (hos'.below.mono HBD.out.size))
  have HL2 : Hid (W0.heap.size < w2.heap.size) := hid (Nat.lt_of_lt_of_le HBR.out.1 hos'.below.size)
  obtain ⟨sa, sc, rfl⟩ := hos'.sl.val
  clear hos' hW0 hW1
  have hk6 : w2.cell? ⟨w.heap.size, 6, none⟩ = some (.slice ac l.length cc) := by rw [cell_of_row _ _ _ _ _ _ HX2.out]; rfl
  have HPC := hid (rplaces_any (.slice ac l.length cc) (.slice sa s.length sc) l s w2 (HC.out.below HB2.out) HS2.out HSLEN.out (by omega))
  go_wp2_with fail
  clear hk6
  refine HPC.out.mono ?_
  rintro e w3 ⟨vp, rfl, hop⟩
  have HP3 := hid hop.sl
  have HS3 := hid (HS2.out.below hop.below)
  have HX3 := hid ((hop.below.block _ (Nat.lt_trans HBR.out.2 HL2.out)).trans HX2.out)
  have HR3 := hid ((hop.below.block _ HL2.out).trans HR2.out)
  have HB3 := hid (HB2.out.trans (hop.below.mono HB2.out.size))
  have HL3 : Hid (W0.heap.size < w3.heap.size) := hid (Nat.lt_of_lt_of_le HL2.out hop.below.size)
  obtain ⟨a7, c7, rfl⟩ := hop.sl.val
  clear hop
  have hpl := placesL_len l s
  have HPL := hid hpl
  clear hpl
  go_wp2_with fail
  go_loopw [5, 6] (fun v i wr => ∃ k : Nat, k ≤ hs.length ∧ i = .int .i64 k ∧ slen v = (hdsTo l s hs k).length ∧ Hid (Out w3 wr 35 4 v (hdsTo l s hs k).length (hcells (hdsTo l s hs k)))) (fun _ i _ => hs.length - (intOf i).toNat)
  case atStart => exact ⟨0, Nat.zero_le _, rfl, by rw [hdsTo_zero]; rfl, hid (by rw [hdsTo_zero]; exact Out.nil _ _ _)⟩
  case round =>
    obtain ⟨k, hk, rfl, hsl, HO⟩ := hrel
    obtain ⟨av, cv, hvv⟩ := HO.out.sl.val
    subst hvv
    have HLEN := hid (hdsTo_len l s hs k)
    have HXR := hid ((HO.out.below.block _ (Nat.lt_trans HBR.out.2 HL3.out)).trans HX3.out)
    have HRR := hid ((HO.out.below.block _ HL3.out).trans HR3.out)
    have HBR3 := hid (HB3.out.trans (HO.out.below.mono HB3.out.size))
    have HLR : Hid (W0.heap.size < wr.heap.size) := hid (Nat.lt_of_lt_of_le HL3.out HO.out.below.size)
    have hk7 : wr.cell? ⟨w.heap.size, 7, none⟩ = some (.slice ah hs.length ch) := by rw [cell_of_row _ _ _ _ _ _ HXR.out]; rfl
    clear hsl
    by_cases hlt : k < hs.length
    · obtain ⟨b, off, hab, hc0, hc1, hc2, hc3⟩ := hd_at (HV.out.below HBR3.out) hlt
      subst hab
      have hi : (0 : Int) ≤ (k : Int) := by omega
      have hkl : (k : Int) < (hs.length : Int) := by omega
      obtain ⟨hat, hat0, hf0, hft, hto⟩ := in_at HHI.out (List.getElem_mem hlt)
      have HYES := hid (fun h => hdsTo_yes (l := l) (s := s) hlt h)
      have HNO := hid (fun h => hdsTo_no (l := l) (s := s) hlt h)
      generalize hs[k] = x at hc0 hc1 hc2 hc3 hat hat0 hf0 hft hto HYES HNO
      obtain ⟨fr, to, at_, cls⟩ := x
      simp only at hc0 hc1 hc2 hc3 hat hat0 hf0 hft hto
      obtain ⟨A, rfl⟩ : ∃ A : Nat, at_ = (A : Int) := ⟨at_.toNat, by omega⟩
      obtain ⟨G, rfl⟩ : ∃ G : Nat, fr = (G : Int) := ⟨fr.toNat, by omega⟩
      obtain ⟨T, rfl⟩ : ∃ T : Nat, to = (T : Int) := ⟨to.toNat, by omega⟩
      have hA : A < l.length := by omega
      have hG0 : (0 : Int) ≤ (G : Int) := by omega
      have hT0 : (0 : Int) ≤ (T : Int) := by omega
      have hA0 : (0 : Int) ≤ (A : Int) := by omega
      obtain ⟨W6, hW6⟩ : ∃ W6, wr.alloc (.cells #[.int .i64 (G : Int), .int .i64 (T : Int), .int .i64 (A : Int), .string cls] 35) = W6 := ⟨_, rfl⟩
      have HE6 : Hid (Below wr.heap.size wr W6) := hid (by subst hW6; exact ext_alloc _ _)
      have HPR := hid (HP3.out.below HO.out.below)
      obtain ⟨bp, op1, hap, hpG⟩ := ints_read (HPR.out.below HE6.out) (k := G) (by rw [HPL.out]; omega)
      subst hap
      obtain ⟨bp2, op2, hap2, hpT⟩ := ints_read (HPR.out.below HE6.out) (k := T) (by rw [HPL.out]; omega)
      simp only [Option.some.injEq, Addr.mk.injEq] at hap2
      obtain ⟨rfl, rfl, _⟩ := hap2
      obtain ⟨bp2, op2, hap2, hpA⟩ := ints_read (HPR.out.below HE6.out) (k := A) (by rw [HPL.out]; omega)
      simp only [Option.some.injEq, Addr.mk.injEq] at hap2
      obtain ⟨rfl, rfl, _⟩ := hap2
      rw [placesL_at] at hpG hpT hpA
      have hGx : (G : Int) < ((placesL l s).length : Int) := by rw [HPL.out]; omega
      have hTx : (T : Int) < ((placesL l s).length : Int) := by rw [HPL.out]; omega
      have hAx : (A : Int) < ((placesL l s).length : Int) := by rw [HPL.out]; omega
      have e0 : W6.cell? ⟨wr.heap.size, 0, none⟩ = some (.int .i64 (G : Int)) := by rw [← hW6, World.cell?_alloc_at _ _ _ _ rfl]; rfl
      have e1 : W6.cell? ⟨wr.heap.size, 1, none⟩ = some (.int .i64 (T : Int)) := by rw [← hW6, World.cell?_alloc_at _ _ _ _ rfl]; rfl
      have e2 : W6.cell? ⟨wr.heap.size, 2, none⟩ = some (.int .i64 (A : Int)) := by rw [← hW6, World.cell?_alloc_at _ _ _ _ rfl]; rfl
      have e3 : W6.cell? ⟨wr.heap.size, 3, none⟩ = some (.string cls) := by rw [← hW6, World.cell?_alloc_at _ _ _ _ rfl]; rfl
      have HMO : Hid (movedHd l s ⟨(G : Int), (T : Int), (A : Int), cls⟩ = ⟨(placeOf l s G : Int), (placeOf l s T : Int), (placeOf l s A : Int), cls⟩) := hid rfl
      have HKE : Hid (keptHd l s ⟨(G : Int), (T : Int), (A : Int), cls⟩ = decide (placeOf l s G < placeOf l s T)) := hid rfl
      generalize placeOf l s G = pG at hpG HMO HKE
      generalize placeOf l s T = pT at hpT HMO HKE
      generalize placeOf l s A = pA at hpA HMO
      generalize hdsTo l s hs k = H7 at *
      by_cases hkk : pG < pT
      · have hkk2 : (pG : Int) < (pT : Int) := by omega
        have HSUC : Hid (hdsTo l s hs (k + 1) = H7 ++ [⟨(pG : Int), (pT : Int), (pA : Int), cls⟩]) := hid (by rw [HYES.out (by rw [HKE.out]; exact decide_eq_true hkk), HMO.out])
        go_wp2_with fail
        go_quiet (fail)
        obtain ⟨Wd, hWd⟩ : ∃ Wd, W6.drewN nq = Wd := ⟨_, rfl⟩
        have HBD2 : Hid (Below W6.heap.size W6 Wd) := hid (by rw [← hWd]; exact below_drewN (Below.refl _ _) nq)
        rw [hWd]
        clear hWd
        go_wp2_with fail
        replace e0 : Wd.cell? ⟨wr.heap.size, 0, none⟩ = some (.int .i64 (G : Int)) := by rw [HBD2.out.cell (World.block_lt_of_cell? _ _ e0)]; exact e0
        replace e1 : Wd.cell? ⟨wr.heap.size, 1, none⟩ = some (.int .i64 (T : Int)) := by rw [HBD2.out.cell (World.block_lt_of_cell? _ _ e1)]; exact e1
        replace e2 : Wd.cell? ⟨wr.heap.size, 2, none⟩ = some (.int .i64 (A : Int)) := by rw [HBD2.out.cell (World.block_lt_of_cell? _ _ e2)]; exact e2
        replace e3 : Wd.cell? ⟨wr.heap.size, 3, none⟩ = some (.string cls) := by rw [HBD2.out.cell (World.block_lt_of_cell? _ _ e3)]; exact e3
        replace hpG : Wd.cell? ⟨bp, op1 + G, none⟩ = some (.int .i64 (pG : Int)) := by rw [HBD2.out.cell (World.block_lt_of_cell? _ _ hpG)]; exact hpG
        replace hpT : Wd.cell? ⟨bp, op1 + T, none⟩ = some (.int .i64 (pT : Int)) := by rw [HBD2.out.cell (World.block_lt_of_cell? _ _ hpT)]; exact hpT
        replace hpA : Wd.cell? ⟨bp, op1 + A, none⟩ = some (.int .i64 (pA : Int)) := by rw [HBD2.out.cell (World.block_lt_of_cell? _ _ hpA)]; exact hpA
        refine wp_region_ext_tail 20 [(19, oneHd ⟨(pG : Int), (pT : Int), (pA : Int), cls⟩)] ⟨oneHd_stays _, trivial⟩ (by kernel_rfl) (by kernel_rfl) ?_
        refine wpG_calc 1 rfl rfl rfl (fun u => by go_simp; rfl) ?_
        simp only [Act.put, List.setIfInBounds_toArray, List.set_cons_zero, List.set_cons_succ]
        refine wpG_calc 2 rfl rfl rfl (fun u => by go_simp; rfl) ?_
        simp only [Act.put, List.setIfInBounds_toArray, List.set_cons_zero, List.set_cons_succ]
        refine wpG_calc 3 rfl rfl rfl (fun u => by go_simp; rfl) ?_
        simp only [Act.put, List.setIfInBounds_toArray, List.set_cons_zero, List.set_cons_succ]
        refine wpG_read 4 rfl rfl (.int .i64 (G : Int)) rfl ?_ ?_
        · intro u hu hh
          have hx : u.cell? ⟨wr.heap.size, 0, none⟩ = some (.int .i64 (G : Int)) := by rw [hu.cell (World.block_lt_of_cell? _ _ e0)]; exact e0
          go_simp
        simp only [Act.put, List.setIfInBounds_toArray, List.set_cons_zero, List.set_cons_succ]
        refine wpG_calc 5 rfl rfl rfl (fun u => by go_simp; rfl) ?_
        simp only [Act.put, List.setIfInBounds_toArray, List.set_cons_zero, List.set_cons_succ]
        refine wpG_read 6 rfl rfl (.int .i64 (pG : Int)) rfl ?_ ?_
        · intro u hu hh
          have hx : u.cell? ⟨bp, op1 + G, none⟩ = some (.int .i64 (pG : Int)) := by rw [hu.cell (World.block_lt_of_cell? _ _ hpG)]; exact hpG
          go_simp
        simp only [Act.put, List.setIfInBounds_toArray, List.set_cons_zero, List.set_cons_succ]
        refine wpG_calc 7 rfl rfl rfl (fun u => by go_simp; rfl) ?_
        simp only [Act.put, List.setIfInBounds_toArray, List.set_cons_zero, List.set_cons_succ]
        refine wpG_calc 8 rfl rfl rfl (fun u => by go_simp; rfl) ?_
        simp only [Act.put, List.setIfInBounds_toArray, List.set_cons_zero, List.set_cons_succ]
        refine wpG_read 9 rfl rfl (.int .i64 (T : Int)) rfl ?_ ?_
        · intro u hu hh
          have hx : u.cell? ⟨wr.heap.size, 1, none⟩ = some (.int .i64 (T : Int)) := by rw [hu.cell (World.block_lt_of_cell? _ _ e1)]; exact e1
          go_simp
        simp only [Act.put, List.setIfInBounds_toArray, List.set_cons_zero, List.set_cons_succ]
        refine wpG_calc 10 rfl rfl rfl (fun u => by go_simp; rfl) ?_
        simp only [Act.put, List.setIfInBounds_toArray, List.set_cons_zero, List.set_cons_succ]
        refine wpG_read 11 rfl rfl (.int .i64 (pT : Int)) rfl ?_ ?_
        · intro u hu hh
          have hx : u.cell? ⟨bp, op1 + T, none⟩ = some (.int .i64 (pT : Int)) := by rw [hu.cell (World.block_lt_of_cell? _ _ hpT)]; exact hpT
          go_simp
        simp only [Act.put, List.setIfInBounds_toArray, List.set_cons_zero, List.set_cons_succ]
        refine wpG_calc 12 rfl rfl rfl (fun u => by go_simp; rfl) ?_
        simp only [Act.put, List.setIfInBounds_toArray, List.set_cons_zero, List.set_cons_succ]
        refine wpG_calc 13 rfl rfl rfl (fun u => by go_simp; rfl) ?_
        simp only [Act.put, List.setIfInBounds_toArray, List.set_cons_zero, List.set_cons_succ]
        refine wpG_read 14 rfl rfl (.int .i64 (A : Int)) rfl ?_ ?_
        · intro u hu hh
          have hx : u.cell? ⟨wr.heap.size, 2, none⟩ = some (.int .i64 (A : Int)) := by rw [hu.cell (World.block_lt_of_cell? _ _ e2)]; exact e2
          go_simp
        simp only [Act.put, List.setIfInBounds_toArray, List.set_cons_zero, List.set_cons_succ]
        refine wpG_calc 15 rfl rfl rfl (fun u => by go_simp; rfl) ?_
        simp only [Act.put, List.setIfInBounds_toArray, List.set_cons_zero, List.set_cons_succ]
        refine wpG_read 16 rfl rfl (.int .i64 (pA : Int)) rfl ?_ ?_
        · intro u hu hh
          have hx : u.cell? ⟨bp, op1 + A, none⟩ = some (.int .i64 (pA : Int)) := by rw [hu.cell (World.block_lt_of_cell? _ _ hpA)]; exact hpA
          go_simp
        simp only [Act.put, List.setIfInBounds_toArray, List.set_cons_zero, List.set_cons_succ]
        refine wpG_calc 17 rfl rfl rfl (fun u => by go_simp; rfl) ?_
        simp only [Act.put, List.setIfInBounds_toArray, List.set_cons_zero, List.set_cons_succ]
        refine wpG_read 18 rfl rfl (.string cls) rfl ?_ ?_
        · intro u hu hh
          have hx : u.cell? ⟨wr.heap.size, 3, none⟩ = some (.string cls) := by rw [hu.cell (World.block_lt_of_cell? _ _ e3)]; exact e3
          go_simp
        simp only [Act.put, List.setIfInBounds_toArray, List.set_cons_zero, List.set_cons_succ]
        refine wpG_calc 19 rfl rfl rfl (fun u => by go_simp; rfl) ?_
        simp only [Act.put, List.setIfInBounds_toArray, List.set_cons_zero, List.set_cons_succ]
        refine wpG_rel 20 rfl rfl rfl ?_ ?_
        · intro u hu hh
          clear hh
          go_simp
          exact ⟨Sl.lit u #[.int .i64 (pG : Int), .int .i64 (pT : Int), .int .i64 (pA : Int), .string cls] 35 1 4 rfl, ext_alloc _ _⟩
        intro v21 ⟨u21, _, hr21⟩
        obtain ⟨a21, c21, hv21⟩ := Sl.val hr21
        clear hr21
        subst hv21
        simp only [Act.put, List.setIfInBounds_toArray, List.set_cons_zero, List.set_cons_succ]
        refine wpG_nil fun w7 hb7 hF => ?_
        have hone : oneHd ⟨(pG : Int), (pT : Int), (pA : Int), cls⟩ (.slice a21 1 c21) w7 := hF 19
        have HSRC : Hid (Sl w7 (.slice a21 1 c21) 1 4 (Hd.cells ⟨(pG : Int), (pT : Int), (pA : Int), cls⟩)) := hid hone
        clear hF hone
        have HB7 : Hid (Below wr.heap.size wr w7) := hid ((HE6.out.trans (HBD2.out.mono HE6.out.size)).trans (hb7.mono (Nat.le_trans HE6.out.size HBD2.out.size)))
        have HOW := hid (HO.out.later HB7.out)
        clear hb7 e0 e1 e2 e3 hpG hpT hpA
        have hl8 := HLEN.out
        have O1 := hid (show ∀ u ∈ (Hd.cells ⟨(pG : Int), (pT : Int), (pA : Int), cls⟩), u.oneCell' = true from fun u hu => by simp [Hd.cells] at hu; rcases hu with rfl | rfl | rfl | rfl <;> rfl)
        refine wpList_append_src_at w3 w7 rfl (.tmp 37) (.tmp 56) 23 rfl 35 (.agg #[.int .i64 0, .int .i64 0, .int .i64 0, .string { data := #[] }]) 4 40 1 Tryd.underlying23 infoHd rfl (by decide) (.slice av H7.length cv) H7.length (hcells H7) HOW.out rfl (.slice a21 1 c21) _ HSRC.out rfl O1.out ?_ ?_ ?_
        all_goals first | (intro v8 w8 ho8 _ _) | omega | skip
        obtain ⟨a8, c8, hv8⟩ := ho8.sl.val
        subst hv8
        have HO8 : Hid (Out w3 w8 35 4 (.slice a8 (H7.length + 1) c8) (hdsTo l s hs (k + 1)).length (hcells (hdsTo l s hs (k + 1)))) := hid (by rw [HSUC.out, hcells_snoc, List.length_append]; exact ho8)
        have HSU2 : Hid (H7.length + 1 = (hdsTo l s hs (k + 1)).length) := hid (by rw [HSUC.out, List.length_append]; rfl)
        clear ho8
        go_wp2_with fail
        go_roundw
        case rel => exact ⟨k + 1, by omega, by go_num, HSU2.out, HO8⟩
        case measure => simp [intOf]; omega
      · have hkk2 : ¬ (pG : Int) < (pT : Int) := by omega
        have HSUC : Hid (hdsTo l s hs (k + 1) = H7) := hid (HNO.out (by rw [HKE.out]; simp; omega))
        go_wp2_with fail
        go_quiet (fail)
        have HTN : Hid (Out w3 (W6.drewN nq) 35 4 (.slice av H7.length cv) (hdsTo l s hs (k + 1)).length (hcells (hdsTo l s hs (k + 1)))) := hid (by
          rw [HSUC.out]; exact HO.out.later (HE6.out.trans ((below_drewN (Below.refl _ _) nq).mono HE6.out.size)))
        go_wp2_with fail
        go_roundw
        case rel => exact ⟨k + 1, by omega, by go_num, by rw [HSUC.out]; rfl, HTN⟩
        case measure => simp [intOf]; omega
    · obtain rfl : k = hs.length := by omega
      have hge : ¬ (hs.length : Int) < (hs.length : Int) := by omega
      have hk6 : wr.cell? ⟨w.heap.size, 6, none⟩ = some (.slice ac l.length cc) := by rw [cell_of_row _ _ _ _ _ _ HXR.out]; rfl
      have HCC := hid (rcode_any (.slice ac l.length cc) (.slice sa s.length sc) l s wr (HC.out.below HBR3.out) (HS3.out.below HO.out.below) HSLEN.out (by omega) HJ.out)
      go_wp2_with fail
      clear hk6 hk7
      refine HCC.out.mono ?_
      rintro e w5 ⟨v6, rfl, ho6⟩
      have HO6 := hid ho6
      have HOB := hid ho6.below
      obtain ⟨a6, c6, rfl⟩ := ho6.sl.val
      clear ho6
      have HX5 := hid ((HOB.out.block _ (Nat.lt_trans HBR.out.2 HLR.out)).trans HXR.out)
      have HR5 := hid ((HOB.out.block _ HLR.out).trans HRR.out)
      have HB5 := hid (HBR3.out.trans (HOB.out.mono HBR3.out.size))
      have q6 : w5.cell? ⟨w.heap.size, 6, none⟩ = some (.slice ac l.length cc) := by rw [cell_of_row _ _ _ _ _ _ HX5.out]; rfl
      have q7 : w5.cell? ⟨w.heap.size, 7, none⟩ = some (.slice ah hs.length ch) := by rw [cell_of_row _ _ _ _ _ _ HX5.out]; rfl
      have f6 : w5.frozen? ⟨w.heap.size, 6, none⟩ = false := frozen_of_row _ _ _ _ _ HX5.out
      have f7 : w5.frozen? ⟨w.heap.size, 7, none⟩ = false := frozen_of_row _ _ _ _ _ HX5.out
      obtain ⟨W9, hW9⟩ : ∃ W9, (w5.setCell ⟨w.heap.size, 6, none⟩ (.slice a6 (trimOf l s).length c6)).setCell ⟨w.heap.size, 7, none⟩ (.slice av (hdsTo l s hs hs.length).length cv) = W9 := ⟨_, rfl⟩
      have HK9 : Hid (Keeps (fun k => k = w.heap.size) w5 W9) := hid (by subst hW9; exact (Keeps.set w5 _ 6 _).trans (Keeps.set _ _ 7 _))
      have HX9 : Hid (W9.heap[w.heap.size]? = some (.cells #[.string nm, .string ty, .bool st, .bool ab, .bool pr, .int .i64 lo, .slice a6 (trimOf l s).length c6, .slice av (hdsTo l s hs hs.length).length cv] 25)) := hid (by subst hW9; exact heap_set (heap_set HX5.out 6 _) 7 _)
      have HR9 := hid ((HK9.out.block _ (Nat.lt_of_lt_of_le HLR.out HOB.out.size) (by have := HBR.out; omega)).trans HR5.out)
      have HB9 : Hid (Below w.heap.size w W9) := hid (Keeps.below HB5.out HB5.out.size HK9.out (fun k hk => by omega))
      go_wp2_with (first
        | refine wpList_load_row rfl 25 (.tmp 1) rfl w.heap.size rfl _ _ _ _ HX9.out Tryd.underlying25 rfl (by kernel_rfl) ?_
        | refine wpList_store_row rfl 25 (.tmp 2) (.tmp 65) rfl W0.heap.size _ rfl rfl 25 _ HR9.out (by kernel_rfl) rfl (by simp [Value.oneCell']) ?_)
      refine bodyPost_ret (results_cell_row rfl _ _ W0.heap.size _ _ _ _ rfl (setRow_heap _ _ _ _ _ _ HR9.out) Tryd.underlying25 rfl (by kernel_rfl)) rfl ?_
      refine ⟨_, _, rfl, ?_, ?_, fun k' hk' => by have h5 := (HO6.out.own.lt k' hk').1; have h6 := HLR.out; have h7 := HBR.out; omega, fun k' hk' => by have h5 := (HO.out.own.lt k' hk').1; have h6 := HL3.out; have h7 := HBR.out; omega, below_setRow HB9.out (Nat.le_of_lt HBR.out.2) _⟩
      · exact sl_keeps (sl_keeps HO6.out.sl HK9.out (fun k' hk' => by have h5 := (HO6.out.own.lt k' hk').1; have h6 := HLR.out; have h7 := HBR.out; omega)) (keeps_row _ _ _) (fun k' hk' => by have h5 := (HO6.out.own.lt k' hk').1; have h6 := HLR.out; omega)
      · exact sl_keeps (sl_keeps (HO.out.later HOB.out).sl HK9.out (fun k' hk' => by have h5 := (HO.out.own.lt k' hk').1; have h6 := HL3.out; have h7 := HBR.out; omega)) (keeps_row _ _ _) (fun k' hk' => by have h5 := (HO.out.own.lt k' hk').1; have h6 := HL3.out; omega)
end Go.Proofs.YtklebfkbildifaaDoor.trims

namespace Go.Proofs.YtklebfkbildifaaDoor.trims
open Go.RowKit Go.Proofs.YtklebfkbildifaaDoor.lib Go.Proofs.YtklebfkbildifaaDoor.errs Go.Proofs.YtklebfkbildifaaDoor.names Go.Proofs.YtklebfkbildifaaDoor.descs Go.Proofs.YtklebfkbildifaaDoor.ins Go.Proofs.YtklebfkbildifaaDoor.reach Go.Proofs.YtklebfkbildifaaDoor.flows Go.Proofs.YtklebfkbildifaaDoor.hdls Go.Proofs.YtklebfkbildifaaDoor.mseen Go.Proofs.YtklebfkbildifaaDoor.classes Go.Proofs.YtklebfkbildifaaDoor.grow Go.Proofs.YtklebfkbildifaaDoor.keep

theorem trimOf_le (l : List I) (s : List Bool) : (trimOf l s).length ≤ l.length := Nat.le_trans (Nat.le_of_eq (trim_len l s l.length)) (place_le l s l.length)
theorem tm_code {l : List I} {hs : List Hd} (h : codeFault l ≠ 0) : tmFault l hs = codeFault l := by unfold tmFault; rw [if_pos h]
theorem tm_full {l : List I} {hs : List Hd} (h : codeFault l = 0) (h8 : 8 < hs.length) : tmFault l hs = 4 := by unfold tmFault; rw [if_neg (by omega), if_pos h8]
theorem tm_hds {l : List I} {hs : List Hd} (h : codeFault l = 0) (h8 : ¬ 8 < hs.length) : tmFault l hs = hdFault l.length hs := by unfold tmFault; rw [if_neg (by omega), if_neg h8]

set_option maxRecDepth 100000 in
set_option maxHeartbeats 8000000 in
theorem trimtells_any (va : Value) (l : List I) (m : MV) (w : World) (ha : Go.Proofs.YtklebfkbildifaaDoor.flows.Code w va l) (hm : m.At w) (hf : FormsAt w) (hs1 : ∀ x ∈ l, Small x) (hn : l.length ≤ 2000000) (hsm : SmallM m) :
    Calls Tryd.prog 4 #[va, .agg m.cells.toArray] w fun e w' => e = .returned (.bool true) ∧ Below w.heap.size w w' := by
  have HM := hid hm
  have HSM := hid hsm
  have HF := hid hf
  obtain ⟨nm, ty, st, ab, pr, lo, vc, vh, code, hs⟩ := m
  obtain ⟨hc, hv⟩ := hm
  simp only [MV.cells] at hc hv ⊢
  obtain ⟨ac, cc, rfl⟩ := hc.val
  obtain ⟨ah, ch, rfl⟩ := hv.val
  obtain ⟨a, c, rfl⟩ := ha.val
  have HA := hid ha
  have HC := hid hc
  have HV := hid hv
  have HSC : Hid (∀ x ∈ code, Small x) := hid hsm.code
  have HSH : Hid (∀ x ∈ hs, x.cls.size ≤ 1048576) := hid hsm.hs
  have hcl : code.length ≤ 1048576 := hsm.len
  have hhl : hs.length ≤ 1048576 := hsm.hlen
  have HS1 := hid hs1
  obtain ⟨W0, hW0⟩ : ∃ W0, w.alloc (.cells #[.string nm, .string ty, .bool st, .bool ab, .bool pr, .int .i64 lo, .slice ac code.length cc, .slice ah hs.length ch] 25) = W0 := ⟨_, rfl⟩
  have HBX : Hid (W0.heap[w.heap.size]? = some (.cells #[.string nm, .string ty, .bool st, .bool ab, .bool pr, .int .i64 lo, .slice ac code.length cc, .slice ah hs.length ch] 25)) := hid (by subst hW0; exact heap_alloc_new _ _)
  have HB0 : Hid (Below w.heap.size w W0 ∧ w.heap.size < W0.heap.size) := hid (by subst hW0; exact ⟨ext_alloc _ _, by rw [World.size_alloc]; exact Nat.lt_succ_self _⟩)
  clear hc hv ha hf hsm hs1
  go_enter Tryd.func4, Tryd.ntmps4
  go_wp2_with fail
  refine (trimmed_any W0 (HF.out.below HB0.out.1)).mono ?_
  rintro e w1 ⟨rfl, hb1⟩
  have HX1 := hid ((hb1.block _ HB0.out.2).trans HBX.out)
  have HB1 := hid (HB0.out.1.trans (hb1.mono HB0.out.1.size))
  have HL1 := hid (Nat.lt_of_lt_of_le HB0.out.2 hb1.size)
  clear hb1 hW0
  go_wp2_with fail
  refine (codeFault_any _ l w1 (HA.out.below HB1.out) HS1.out (by omega)).mono ?_
  rintro e w2 ⟨rfl, hb2⟩
  have HX2 := hid ((hb2.block _ HL1.out).trans HX1.out)
  have HB2 := hid (HB1.out.trans (hb2.mono HB1.out.size))
  have HL2 := hid (Nat.lt_of_lt_of_le HL1.out hb2.size)
  clear hb2
  go_wp2_with fail
  refine (tcode_any _ l w2 (HA.out.below HB2.out) (HF.out.below HB2.out) HS1.out hn).mono ?_
  intro e w3 h3
  by_cases hl : codeFault l = 0
  · obtain ⟨v3, rfl, ho3⟩ := codeBy_good hl h3
    obtain ⟨hR, hl0, hl40⟩ := right_of hl
    have HR := hid hR
    have HJ := hid (jumps_in hl)
    have HX3 := hid ((ho3.below.block _ HL2.out).trans HX2.out)
    have HB3 := hid (HB2.out.trans (ho3.below.mono HB2.out.size))
    have HL3 := hid (Nat.lt_of_lt_of_le HL2.out ho3.below.size)
    have HO3 := hid ho3.sl
    obtain ⟨a3, c3, rfl⟩ := ho3.sl.val
    clear h3 ho3
    rw [hl]
    go_wp2_with fail
    refine (error_ok _).mono ?_
    rintro e w4 ⟨rfl, rfl⟩
    have HLI := hid (Sl.lit w3 #[.int .i64 0] 3 1 1 rfl)
    have HBL := hid (ext_alloc w3 (.cells #[.int .i64 0] 3))
    go_wp2_with fail
    refine (reached_any _ _ l [0] _ ((HA.out.below HB3.out).below HBL.out) HLI.out HR.out (fun k hk => by rw [List.mem_singleton.1 hk]; exact hl0) (by omega) (by simp)).mono ?_
    rintro e w5 ⟨v5, rfl, ho5⟩
    have hsl : (seenOf l).length = l.length := reached_len (succ_lt (right_of hl).1)
    have HSL := hid hsl
    have HB5 := hid (HBL.out.trans (ho5.below.mono HBL.out.size))
    have HS5 : Hid (Sl w5 v5 (seenOf l).length 1 (bools (seenOf l))) := hid (by rw [hsl]; exact ho5.sl)
    obtain ⟨a5, c5, hv5⟩ := HS5.out.val
    subst hv5
    clear ho5 hsl
    go_wp2_with fail
    refine (rcode_any _ _ l (seenOf l) _ ((HA.out.below HB3.out).below HB5.out) HS5.out HSL.out (by omega) HJ.out).mono ?_
    rintro e w6 ⟨v6, rfl, ho6⟩
    have HB6 := hid (HB5.out.trans (ho6.below.mono HB5.out.size))
    have HO6 := hid ho6.sl
    obtain ⟨a6, c6, rfl⟩ := ho6.sl.val
    clear ho6
    go_wp2_with fail
    refine (scode_same _ _ (trimOf l (seenOf l)) _ (HO3.out.below HB6.out) HO6.out (Nat.le_trans (trimOf_le l (seenOf l)) (by omega))).mono ?_
    rintro e w7 ⟨rfl, hb7⟩
    have HBX7 := hid (HB6.out.trans (hb7.mono HB6.out.size))
    have HX5 := hid ((HBX7.out.block _ HL3.out).trans HX3.out)
    have HB5 := hid (HB3.out.trans (HBX7.out.mono HB3.out.size))
    have HL5 := hid (Nat.lt_of_lt_of_le HL3.out HBX7.out.size)
    clear hb7
    have hk6 : w7.cell? ⟨w.heap.size, 6, none⟩ = some (.slice ac code.length cc) := by rw [cell_of_row _ _ _ _ _ _ HX5.out]; rfl
    have HCM := hid (codeFault_any (.slice ac code.length cc) code w7 (HC.out.below HB5.out) HSC.out (by omega))
    go_wp2_with fail
    clear hk6
    refine HCM.out.mono ?_
    rintro e wq ⟨rfl, hbq⟩
    have HXq := hid ((hbq.block _ HL5.out).trans HX5.out)
    have HBq := hid (HB5.out.trans (hbq.mono HB5.out.size))
    have HLq := hid (Nat.lt_of_lt_of_le HL5.out hbq.size)
    clear hbq HCM
    by_cases h0 : codeFault code = 0
    · rw [h0]
      have hk7 : wq.cell? ⟨w.heap.size, 7, none⟩ = some (.slice ah hs.length ch) := by rw [cell_of_row _ _ _ _ _ _ HXq.out]; rfl
      by_cases h8 : 8 < hs.length
      · have HTF := hid (tm_full h0 h8)
        have HF0 : Hid ((4 : Int) ≠ 0) := hid (by decide)
        have h8i : (8 : Int) < (hs.length : Int) := by omega
        clear h0
        have HMT := hid (tmethod_any ⟨nm, ty, st, ab, pr, lo, .slice ac code.length cc, .slice ah hs.length ch, code, hs⟩ wq (HM.out.below HBq.out) (HF.out.below HBq.out) HSM.out)
        simp only [MV.cells] at HMT
        go_wp2_with (refine wpList_load_row rfl 25 (.tmp 3) rfl w.heap.size rfl _ _ _ _ HXq.out Tryd.underlying25 rfl (by kernel_rfl) ?_)
        refine HMT.out.mono ?_
        rintro e w8 ⟨r, rfl, hT, hb8⟩
        have HB8 := hid (HBq.out.trans (hb8.mono HBq.out.size))
        obtain ⟨r1, r2, r3, r4, r5, r6, r7, r8, r9, r10⟩ := r
        obtain ⟨x1, x2, x3, x4, x5, x6, x7, x8, x9, x10⟩ := hT.no (by rw [HTF.out]; exact HF0.out)
        simp only at x1 x2 x3 x4 x5 x6 x7 x8 x9 x10
        subst x1 x2 x3 x4 x5 x6 x7 x8 x9 x10
        clear hT hb8
        rw [HTF.out, show (ByteArray.empty : ByteArray) = { data := #[] } from rfl]
        have hFb : ((4 : Int) == 0) = false := by decide
        have hFb2 : ¬ (4 : Int) = 0 := HF0.out
        go_wp2_with fail
        refine (error_same (4 : Int) _).mono ?_
        rintro e w9 ⟨rfl, rfl⟩
        go_wp2_with fail
        refine (smet_same _ _ _ _ _ _ (.slice none 0 0) (.slice none 0 0) (.slice none 0 0) (.slice none 0 0) [] [] _ (Out.nil _ 0 _).sl (Out.nil _ 0 _).sl (Out.nil _ 0 _).sl (Out.nil _ 0 _).sl (by decide) (by decide)).mono ?_
        rintro e w10 ⟨rfl, hb10⟩
        have HB10 := hid ((((HB8.out.alloc HB8.out.size _).alloc (by simp; have := HB8.out.size; omega) _)).trans (hb10.mono (by simp; have := HB8.out.size; omega)))
        clear hb10
        go_wp2_with fail
        go_ret
        exact ⟨rfl, HB10.out⟩
      · have h8i : ¬ (8 : Int) < (hs.length : Int) := by omega
        have hk6 : wq.cell? ⟨w.heap.size, 6, none⟩ = some (.slice ac code.length cc) := by rw [cell_of_row _ _ _ _ _ _ HXq.out]; rfl
        have HHF := hid (rhandlers_any code.length (.slice ah hs.length ch) hs wq (HV.out.below HBq.out) (fun h hh => by have := HSH.out h hh; omega) (by omega))
        go_wp2_with fail
        refine HHF.out.mono ?_
        rintro e wz ⟨rfl, hbz⟩
        clear hk6 hk7
        have HXz := hid ((hbz.block _ HLq.out).trans HXq.out)
        have HBz := hid (HBq.out.trans (hbz.mono HBq.out.size))
        have HLz := hid (Nat.lt_of_lt_of_le HLq.out hbz.size)
        clear hbz HXq HBq HLq HHF
        have HTF := hid (tm_hds h0 h8)
        by_cases h1 : hdFault code.length hs = 0
        · have HRT := hid (fun (u : World) (h : Below w.heap.size w u) => rtm_any nm ty st ab pr lo (.slice ac code.length cc) (.slice ah hs.length ch) code hs u (HC.out.below h) (HV.out.below h) h0 h1 (by omega))
          have HTZ : Hid (tmFault code hs = 0) := hid (HTF.out.trans h1)
          have HMT := hid (tmethod_any ⟨nm, ty, st, ab, pr, lo, .slice ac code.length cc, .slice ah hs.length ch, code, hs⟩ wz (HM.out.below HBz.out) (HF.out.below HBz.out) HSM.out)
          simp only [MV.cells] at HMT
          rw [h1]
          clear h0 h1
          go_wp2_with (refine wpList_load_row rfl 25 (.tmp 3) rfl w.heap.size rfl _ _ _ _ HXz.out Tryd.underlying25 rfl (by kernel_rfl) ?_)
          refine HMT.out.mono ?_
          rintro e w8 ⟨r, rfl, hT, hb8⟩
          have HX8 := hid ((hb8.block _ HLz.out).trans HXz.out)
          have HB8 := hid (HBz.out.trans (hb8.mono HBz.out.size))
          have HL8 := hid (Nat.lt_of_lt_of_le HLz.out hb8.size)
          have hTO := hT.ok HTZ.out
          have hTA := hT.at_
          obtain ⟨r1, r2, r3, r4, r5, r6, r7, r8, r9, r10⟩ := r
          obtain ⟨x1, x2, x3, x4, x5, x6, x9, x10⟩ := hTO
          obtain ⟨hrc, hrh⟩ := hTA
          simp only at x1 x2 x3 x4 x5 x6 x9 x10 hrc hrh
          subst x1 x2 x3 x4 x5 x6
          rw [x9] at hrc
          rw [x10] at hrh
          clear x9 x10 hT hb8
          have HCTL : Hid ((trimOf code (mseen (succOf code) code.length hs)).length ≤ 1000000000000 ∧ (hdsTo code (mseen (succOf code) code.length hs) hs hs.length).length ≤ 1000000000000) := hid ⟨Nat.le_trans (trimOf_le code _) (by omega), by have h1 := hdsTo_len code (mseen (succOf code) code.length hs) hs hs.length; omega⟩
          generalize hdsTo code (mseen (succOf code) code.length hs) hs hs.length = HT at hrh HRT HCTL
          generalize trimOf code (mseen (succOf code) code.length hs) = CT at hrc HRT HCTL
          obtain ⟨a7, c7, hv7⟩ := hrc.val
          obtain ⟨a8, c8, hv8⟩ := hrh.val
          subst hv7 hv8
          rw [HTZ.out]
          have HRC := hid hrc
          have HRH := hid hrh
          clear hrc hrh
          obtain ⟨W8, hW8⟩ : ∃ W, w8.alloc (.cells #[.string r1, .string r2, .bool r3, .bool r4, .bool r5, .int .i64 r6, .slice a7 CT.length c7, .slice a8 HT.length c8] 25) = W := ⟨_, rfl⟩
          have H8 : Hid (Below w8.heap.size w8 W8 ∧ w8.heap.size < W8.heap.size ∧ W8.heap[w8.heap.size]? = some (.cells #[.string r1, .string r2, .bool r3, .bool r4, .bool r5, .int .i64 r6, .slice a7 CT.length c7, .slice a8 HT.length c8] 25)) := hid (by subst hW8; exact ⟨ext_alloc _ _, by rw [World.size_alloc]; exact Nat.lt_succ_self _, heap_alloc_new _ _⟩)
          obtain ⟨W9, hW9⟩ : ∃ W, W8.alloc (.cells #[.string { data := #[] }, .string { data := #[] }, .bool false, .bool false, .bool false, .int .i64 0, .slice none 0 0, .slice none 0 0] 25) = W := ⟨_, rfl⟩
          have H9 : Hid (Below W8.heap.size W8 W9 ∧ W8.heap.size < W9.heap.size ∧ W9.heap[W8.heap.size]? = some (.cells #[.string { data := #[] }, .string { data := #[] }, .bool false, .bool false, .bool false, .int .i64 0, .slice none 0 0, .slice none 0 0] 25)) := hid (by subst hW9; exact ⟨ext_alloc _ _, by rw [World.size_alloc]; exact Nat.lt_succ_self _, heap_alloc_new _ _⟩)
          have HB9 := hid ((HB8.out.trans (H8.out.1.mono HB8.out.size)).trans (H9.out.1.mono (Nat.le_trans HB8.out.size H8.out.1.size)))
          have HX9 := hid ((H9.out.1.block _ (Nat.lt_trans HL8.out H8.out.2.1)).trans ((H8.out.1.block _ HL8.out).trans HX8.out))
          go_wp2_with fail
          refine (error_same 0 _).mono ?_
          rintro e wy ⟨rfl, rfl⟩
          go_wp2_with (refine wpList_load_row rfl 25 (.tmp 3) rfl w.heap.size rfl _ _ _ _ HX9.out Tryd.underlying25 rfl (by kernel_rfl) ?_)
          clear hW8 hW9
          refine (HRT.out W9 HB9.out).mono ?_
          rintro e w10 ⟨v6, v7, rfl, hc6, hh7, ho6, ho7, hb10⟩
          have HC6 := hid hc6
          have HH7 := hid hh7
          obtain ⟨p6, q6, hv6⟩ := hc6.val
          obtain ⟨p7, q7, hv7⟩ := hh7.val
          subst hv6 hv7
          have HR16 := hid ((hb10.block _ H9.out.2.1).trans H9.out.2.2)
          have HR13 := hid ((hb10.block _ (Nat.lt_trans H8.out.2.1 H9.out.2.1)).trans ((H9.out.1.block _ H8.out.2.1).trans H8.out.2.2))
          have HB10 := hid (HB9.out.trans (hb10.mono HB9.out.size))
          have HBW := hid ((H8.out.1.trans (H9.out.1.mono H8.out.1.size)).trans (hb10.mono (Nat.le_trans H8.out.1.size H9.out.1.size)))
          have HN6 := hid ho6
          have HN7 := hid ho7
          clear hc6 hh7 hb10 ho6 ho7
          have HK11 : Hid (Keeps (fun k => k = W8.heap.size) w10 (w10.setRow W8.heap.size #[.string r1, .string r2, .bool r3, .bool r4, .bool r5, .int .i64 r6, .slice p6 CT.length q6, .slice p7 HT.length q7])) := hid (by exact keeps_row _ _ _)
          have HR16b : Hid ((w10.setRow W8.heap.size #[.string r1, .string r2, .bool r3, .bool r4, .bool r5, .int .i64 r6, .slice p6 CT.length q6, .slice p7 HT.length q7]).heap[W8.heap.size]? = some (.cells #[.string r1, .string r2, .bool r3, .bool r4, .bool r5, .int .i64 r6, .slice p6 CT.length q6, .slice p7 HT.length q7] 25)) := hid (by exact setRow_heap _ _ _ _ _ _ HR16.out)
          have HR13b := hid ((HK11.out.block w8.heap.size (World.block_lt_of_cell? w10 ⟨w8.heap.size, 0, none⟩ (by rw [cell_of_row _ _ _ _ _ _ HR13.out]; rfl)) (by have := H8.out.2.1; omega)).trans HR13.out)
          have HB11 : Hid (Below w.heap.size w (w10.setRow W8.heap.size #[.string r1, .string r2, .bool r3, .bool r4, .bool r5, .int .i64 r6, .slice p6 CT.length q6, .slice p7 HT.length q7]) ∧ Below w8.heap.size w8 (w10.setRow W8.heap.size #[.string r1, .string r2, .bool r3, .bool r4, .bool r5, .int .i64 r6, .slice p6 CT.length q6, .slice p7 HT.length q7])) := hid (by exact ⟨below_setRow HB10.out (by have h1 := H8.out.2.1; have h2 := HL8.out; omega) _, below_setRow HBW.out (Nat.le_of_lt H8.out.2.1) _⟩)
          have hne16 : W8.heap.size < W9.heap.size := H9.out.2.1
          have HC11 := hid (sl_keeps HC6.out HK11.out (fun k' hk' => by have h1 := HN6.out k' hk'; omega))
          have HH11 := hid (sl_keeps HH7.out HK11.out (fun k' hk' => by have h1 := HN7.out k' hk'; omega))
          go_wp2_with (first
            | refine wpList_store_row rfl 25 (.tmp 16) (.tmp 71) rfl W8.heap.size _ rfl rfl 25 _ HR16.out (by kernel_rfl) rfl (by simp [Value.oneCell']) ?_
            | refine wpList_load_row rfl 25 (.tmp 13) rfl w8.heap.size rfl _ _ _ _ HR13b.out Tryd.underlying25 rfl (by kernel_rfl) ?_
            | refine wpList_load_row rfl 25 (.tmp 16) rfl W8.heap.size rfl _ _ _ _ HR16b.out Tryd.underlying25 rfl (by kernel_rfl) ?_)
          refine (smet_same r1 r2 r3 r4 r5 r6 (.slice a7 CT.length c7) (.slice a8 HT.length c8) (.slice p6 CT.length q6) (.slice p7 HT.length q7) CT HT (w10.setRow W8.heap.size #[.string r1, .string r2, .bool r3, .bool r4, .bool r5, .int .i64 r6, .slice p6 CT.length q6, .slice p7 HT.length q7]) (HRC.out.below HB11.out.2) (HRH.out.below HB11.out.2) HC11.out HH11.out HCTL.out.1 HCTL.out.2).mono ?_
          rintro e w12 ⟨rfl, hb12⟩
          have HB12 := hid (HB11.out.1.trans (hb12.mono HB11.out.1.size))
          clear hb12
          go_wp2_with fail
          go_ret
          exact ⟨rfl, HB12.out⟩
        · have HF0 : Hid (hdFault code.length hs ≠ 0) := hid h1
          generalize hdFault code.length hs = F at HTF HF0
          have HXq := HXz
          have HBq := HBz
          have hFq : (F == 0) = false := by have := HF0.out; simpa using this
          clear h0 h1 HXz HBz HLz hFq
          obtain ⟨wq', hwq⟩ : ∃ u, wz = u := ⟨_, rfl⟩
          subst hwq
          have HMT := hid (tmethod_any ⟨nm, ty, st, ab, pr, lo, .slice ac code.length cc, .slice ah hs.length ch, code, hs⟩ wz (HM.out.below HBq.out) (HF.out.below HBq.out) HSM.out)
          simp only [MV.cells] at HMT
          go_wp2_with (refine wpList_load_row rfl 25 (.tmp 3) rfl w.heap.size rfl _ _ _ _ HXq.out Tryd.underlying25 rfl (by kernel_rfl) ?_)
          refine HMT.out.mono ?_
          rintro e w8 ⟨r, rfl, hT, hb8⟩
          have HB8 := hid (HBq.out.trans (hb8.mono HBq.out.size))
          obtain ⟨r1, r2, r3, r4, r5, r6, r7, r8, r9, r10⟩ := r
          obtain ⟨x1, x2, x3, x4, x5, x6, x7, x8, x9, x10⟩ := hT.no (by rw [HTF.out]; exact HF0.out)
          simp only at x1 x2 x3 x4 x5 x6 x7 x8 x9 x10
          subst x1 x2 x3 x4 x5 x6 x7 x8 x9 x10
          clear hT hb8
          rw [HTF.out, show (ByteArray.empty : ByteArray) = { data := #[] } from rfl]
          have hFb : (F == 0) = false := by have := HF0.out; simpa using this
          have hFb2 : ¬ F = 0 := HF0.out
          go_wp2_with fail
          refine (error_same F _).mono ?_
          rintro e w9 ⟨rfl, rfl⟩
          go_wp2_with fail
          refine (smet_same _ _ _ _ _ _ (.slice none 0 0) (.slice none 0 0) (.slice none 0 0) (.slice none 0 0) [] [] _ (Out.nil _ 0 _).sl (Out.nil _ 0 _).sl (Out.nil _ 0 _).sl (Out.nil _ 0 _).sl (by decide) (by decide)).mono ?_
          rintro e w10 ⟨rfl, hb10⟩
          have HB10 := hid ((((HB8.out.alloc HB8.out.size _).alloc (by simp; have := HB8.out.size; omega) _)).trans (hb10.mono (by simp; have := HB8.out.size; omega)))
          clear hb10
          go_wp2_with fail
          go_ret
          exact ⟨rfl, HB10.out⟩
    · have HTF := hid (tm_code (hs := hs) h0)
      have HF0 : Hid (codeFault code ≠ 0) := hid h0
      clear h0
      generalize codeFault code = F at HTF HF0
      have hFa : (F == 0) = false := by have := HF0.out; simpa using this
      have hFa2 : ¬ F = 0 := HF0.out
      have HMT := hid (tmethod_any ⟨nm, ty, st, ab, pr, lo, .slice ac code.length cc, .slice ah hs.length ch, code, hs⟩ wq (HM.out.below HBq.out) (HF.out.below HBq.out) HSM.out)
      simp only [MV.cells] at HMT
      go_wp2_with (refine wpList_load_row rfl 25 (.tmp 3) rfl w.heap.size rfl _ _ _ _ HXq.out Tryd.underlying25 rfl (by kernel_rfl) ?_)
      refine HMT.out.mono ?_
      rintro e w8 ⟨r, rfl, hT, hb8⟩
      have HB8 := hid (HBq.out.trans (hb8.mono HBq.out.size))
      obtain ⟨r1, r2, r3, r4, r5, r6, r7, r8, r9, r10⟩ := r
      obtain ⟨x1, x2, x3, x4, x5, x6, x7, x8, x9, x10⟩ := hT.no (by rw [HTF.out]; exact HF0.out)
      simp only at x1 x2 x3 x4 x5 x6 x7 x8 x9 x10
      subst x1 x2 x3 x4 x5 x6 x7 x8 x9 x10
      clear hT hb8
      rw [HTF.out, show (ByteArray.empty : ByteArray) = { data := #[] } from rfl]
      have hFb : (F == 0) = false := by have := HF0.out; simpa using this
      have hFb2 : ¬ F = 0 := HF0.out
      go_wp2_with fail
      refine (error_same F _).mono ?_
      rintro e w9 ⟨rfl, rfl⟩
      go_wp2_with fail
      refine (smet_same _ _ _ _ _ _ (.slice none 0 0) (.slice none 0 0) (.slice none 0 0) (.slice none 0 0) [] [] _ (Out.nil _ 0 _).sl (Out.nil _ 0 _).sl (Out.nil _ 0 _).sl (Out.nil _ 0 _).sl (by decide) (by decide)).mono ?_
      rintro e w10 ⟨rfl, hb10⟩
      have HB10 := hid ((((HB8.out.alloc HB8.out.size _).alloc (by simp; have := HB8.out.size; omega) _)).trans (hb10.mono (by simp; have := HB8.out.size; omega)))
      clear hb10
      go_wp2_with fail
      go_ret
      exact ⟨rfl, HB10.out⟩
  · obtain ⟨rfl, hb3⟩ := codeBy_bad hl h3
    have HX3 := hid ((hb3.block _ HL2.out).trans HX2.out)
    have HB3 := hid (HB2.out.trans (hb3.mono HB2.out.size))
    have HL3 := hid (Nat.lt_of_lt_of_le HL2.out hb3.size)
    have HER := hid (error_some (codeFault l) (codeFault l) w3 hl)
    have HFL := hid hl
    clear h3 hb3
    generalize codeFault l = FL at HER HFL
    have hFb : (FL == 0) = false := by have := HFL.out; simpa using this
    have hFb2 : ¬ FL = 0 := HFL.out
    clear hl
    go_wp2_with fail
    refine HER.out.mono ?_
    rintro e w4 ⟨rfl, rfl⟩
    rw [show (FL == FL) = true from by simp]
    go_wp2_with fail
    refine (scode_same _ _ [] _ (Out.nil _ 0 _).sl (Out.nil _ 0 _).sl (by decide)).mono ?_
    rintro e w7 ⟨rfl, hb7⟩
    have HX5 := hid ((hb7.block _ HL3.out).trans HX3.out)
    have HB5 := hid (HB3.out.trans (hb7.mono HB3.out.size))
    have HL5 := hid (Nat.lt_of_lt_of_le HL3.out hb7.size)
    clear hb7 hFb hFb2
    have hk6 : w7.cell? ⟨w.heap.size, 6, none⟩ = some (.slice ac code.length cc) := by rw [cell_of_row _ _ _ _ _ _ HX5.out]; rfl
    have HCM := hid (codeFault_any (.slice ac code.length cc) code w7 (HC.out.below HB5.out) HSC.out (by omega))
    go_wp2_with fail
    clear hk6
    refine HCM.out.mono ?_
    rintro e wq ⟨rfl, hbq⟩
    have HXq := hid ((hbq.block _ HL5.out).trans HX5.out)
    have HBq := hid (HB5.out.trans (hbq.mono HB5.out.size))
    have HLq := hid (Nat.lt_of_lt_of_le HL5.out hbq.size)
    clear hbq HCM
    by_cases h0 : codeFault code = 0
    · rw [h0]
      have hk7 : wq.cell? ⟨w.heap.size, 7, none⟩ = some (.slice ah hs.length ch) := by rw [cell_of_row _ _ _ _ _ _ HXq.out]; rfl
      by_cases h8 : 8 < hs.length
      · have HTF := hid (tm_full h0 h8)
        have HF0 : Hid ((4 : Int) ≠ 0) := hid (by decide)
        have h8i : (8 : Int) < (hs.length : Int) := by omega
        clear h0
        have HMT := hid (tmethod_any ⟨nm, ty, st, ab, pr, lo, .slice ac code.length cc, .slice ah hs.length ch, code, hs⟩ wq (HM.out.below HBq.out) (HF.out.below HBq.out) HSM.out)
        simp only [MV.cells] at HMT
        go_wp2_with (refine wpList_load_row rfl 25 (.tmp 3) rfl w.heap.size rfl _ _ _ _ HXq.out Tryd.underlying25 rfl (by kernel_rfl) ?_)
        refine HMT.out.mono ?_
        rintro e w8 ⟨r, rfl, hT, hb8⟩
        have HB8 := hid (HBq.out.trans (hb8.mono HBq.out.size))
        obtain ⟨r1, r2, r3, r4, r5, r6, r7, r8, r9, r10⟩ := r
        obtain ⟨x1, x2, x3, x4, x5, x6, x7, x8, x9, x10⟩ := hT.no (by rw [HTF.out]; exact HF0.out)
        simp only at x1 x2 x3 x4 x5 x6 x7 x8 x9 x10
        subst x1 x2 x3 x4 x5 x6 x7 x8 x9 x10
        clear hT hb8
        rw [HTF.out, show (ByteArray.empty : ByteArray) = { data := #[] } from rfl]
        have hFb : ((4 : Int) == 0) = false := by decide
        have hFb2 : ¬ (4 : Int) = 0 := HF0.out
        go_wp2_with fail
        refine (error_same (4 : Int) _).mono ?_
        rintro e w9 ⟨rfl, rfl⟩
        go_wp2_with fail
        refine (smet_same _ _ _ _ _ _ (.slice none 0 0) (.slice none 0 0) (.slice none 0 0) (.slice none 0 0) [] [] _ (Out.nil _ 0 _).sl (Out.nil _ 0 _).sl (Out.nil _ 0 _).sl (Out.nil _ 0 _).sl (by decide) (by decide)).mono ?_
        rintro e w10 ⟨rfl, hb10⟩
        have HB10 := hid ((((HB8.out.alloc HB8.out.size _).alloc (by simp; have := HB8.out.size; omega) _)).trans (hb10.mono (by simp; have := HB8.out.size; omega)))
        clear hb10
        go_wp2_with fail
        go_ret
        exact ⟨rfl, HB10.out⟩
      · have h8i : ¬ (8 : Int) < (hs.length : Int) := by omega
        have hk6 : wq.cell? ⟨w.heap.size, 6, none⟩ = some (.slice ac code.length cc) := by rw [cell_of_row _ _ _ _ _ _ HXq.out]; rfl
        have HHF := hid (rhandlers_any code.length (.slice ah hs.length ch) hs wq (HV.out.below HBq.out) (fun h hh => by have := HSH.out h hh; omega) (by omega))
        go_wp2_with fail
        refine HHF.out.mono ?_
        rintro e wz ⟨rfl, hbz⟩
        clear hk6 hk7
        have HXz := hid ((hbz.block _ HLq.out).trans HXq.out)
        have HBz := hid (HBq.out.trans (hbz.mono HBq.out.size))
        have HLz := hid (Nat.lt_of_lt_of_le HLq.out hbz.size)
        clear hbz HXq HBq HLq HHF
        have HTF := hid (tm_hds h0 h8)
        by_cases h1 : hdFault code.length hs = 0
        · have HRT := hid (fun (u : World) (h : Below w.heap.size w u) => rtm_any nm ty st ab pr lo (.slice ac code.length cc) (.slice ah hs.length ch) code hs u (HC.out.below h) (HV.out.below h) h0 h1 (by omega))
          have HTZ : Hid (tmFault code hs = 0) := hid (HTF.out.trans h1)
          have HMT := hid (tmethod_any ⟨nm, ty, st, ab, pr, lo, .slice ac code.length cc, .slice ah hs.length ch, code, hs⟩ wz (HM.out.below HBz.out) (HF.out.below HBz.out) HSM.out)
          simp only [MV.cells] at HMT
          rw [h1]
          clear h0 h1
          go_wp2_with (refine wpList_load_row rfl 25 (.tmp 3) rfl w.heap.size rfl _ _ _ _ HXz.out Tryd.underlying25 rfl (by kernel_rfl) ?_)
          refine HMT.out.mono ?_
          rintro e w8 ⟨r, rfl, hT, hb8⟩
          have HX8 := hid ((hb8.block _ HLz.out).trans HXz.out)
          have HB8 := hid (HBz.out.trans (hb8.mono HBz.out.size))
          have HL8 := hid (Nat.lt_of_lt_of_le HLz.out hb8.size)
          have hTO := hT.ok HTZ.out
          have hTA := hT.at_
          obtain ⟨r1, r2, r3, r4, r5, r6, r7, r8, r9, r10⟩ := r
          obtain ⟨x1, x2, x3, x4, x5, x6, x9, x10⟩ := hTO
          obtain ⟨hrc, hrh⟩ := hTA
          simp only at x1 x2 x3 x4 x5 x6 x9 x10 hrc hrh
          subst x1 x2 x3 x4 x5 x6
          rw [x9] at hrc
          rw [x10] at hrh
          clear x9 x10 hT hb8
          have HCTL : Hid ((trimOf code (mseen (succOf code) code.length hs)).length ≤ 1000000000000 ∧ (hdsTo code (mseen (succOf code) code.length hs) hs hs.length).length ≤ 1000000000000) := hid ⟨Nat.le_trans (trimOf_le code _) (by omega), by have h1 := hdsTo_len code (mseen (succOf code) code.length hs) hs hs.length; omega⟩
          generalize hdsTo code (mseen (succOf code) code.length hs) hs hs.length = HT at hrh HRT HCTL
          generalize trimOf code (mseen (succOf code) code.length hs) = CT at hrc HRT HCTL
          obtain ⟨a7, c7, hv7⟩ := hrc.val
          obtain ⟨a8, c8, hv8⟩ := hrh.val
          subst hv7 hv8
          rw [HTZ.out]
          have HRC := hid hrc
          have HRH := hid hrh
          clear hrc hrh
          obtain ⟨W8, hW8⟩ : ∃ W, w8.alloc (.cells #[.string r1, .string r2, .bool r3, .bool r4, .bool r5, .int .i64 r6, .slice a7 CT.length c7, .slice a8 HT.length c8] 25) = W := ⟨_, rfl⟩
          have H8 : Hid (Below w8.heap.size w8 W8 ∧ w8.heap.size < W8.heap.size ∧ W8.heap[w8.heap.size]? = some (.cells #[.string r1, .string r2, .bool r3, .bool r4, .bool r5, .int .i64 r6, .slice a7 CT.length c7, .slice a8 HT.length c8] 25)) := hid (by subst hW8; exact ⟨ext_alloc _ _, by rw [World.size_alloc]; exact Nat.lt_succ_self _, heap_alloc_new _ _⟩)
          obtain ⟨W9, hW9⟩ : ∃ W, W8.alloc (.cells #[.string { data := #[] }, .string { data := #[] }, .bool false, .bool false, .bool false, .int .i64 0, .slice none 0 0, .slice none 0 0] 25) = W := ⟨_, rfl⟩
          have H9 : Hid (Below W8.heap.size W8 W9 ∧ W8.heap.size < W9.heap.size ∧ W9.heap[W8.heap.size]? = some (.cells #[.string { data := #[] }, .string { data := #[] }, .bool false, .bool false, .bool false, .int .i64 0, .slice none 0 0, .slice none 0 0] 25)) := hid (by subst hW9; exact ⟨ext_alloc _ _, by rw [World.size_alloc]; exact Nat.lt_succ_self _, heap_alloc_new _ _⟩)
          have HB9 := hid ((HB8.out.trans (H8.out.1.mono HB8.out.size)).trans (H9.out.1.mono (Nat.le_trans HB8.out.size H8.out.1.size)))
          have HX9 := hid ((H9.out.1.block _ (Nat.lt_trans HL8.out H8.out.2.1)).trans ((H8.out.1.block _ HL8.out).trans HX8.out))
          go_wp2_with fail
          refine (error_same 0 _).mono ?_
          rintro e wy ⟨rfl, rfl⟩
          go_wp2_with (refine wpList_load_row rfl 25 (.tmp 3) rfl w.heap.size rfl _ _ _ _ HX9.out Tryd.underlying25 rfl (by kernel_rfl) ?_)
          clear hW8 hW9
          refine (HRT.out W9 HB9.out).mono ?_
          rintro e w10 ⟨v6, v7, rfl, hc6, hh7, ho6, ho7, hb10⟩
          have HC6 := hid hc6
          have HH7 := hid hh7
          obtain ⟨p6, q6, hv6⟩ := hc6.val
          obtain ⟨p7, q7, hv7⟩ := hh7.val
          subst hv6 hv7
          have HR16 := hid ((hb10.block _ H9.out.2.1).trans H9.out.2.2)
          have HR13 := hid ((hb10.block _ (Nat.lt_trans H8.out.2.1 H9.out.2.1)).trans ((H9.out.1.block _ H8.out.2.1).trans H8.out.2.2))
          have HB10 := hid (HB9.out.trans (hb10.mono HB9.out.size))
          have HBW := hid ((H8.out.1.trans (H9.out.1.mono H8.out.1.size)).trans (hb10.mono (Nat.le_trans H8.out.1.size H9.out.1.size)))
          have HN6 := hid ho6
          have HN7 := hid ho7
          clear hc6 hh7 hb10 ho6 ho7
          have HK11 : Hid (Keeps (fun k => k = W8.heap.size) w10 (w10.setRow W8.heap.size #[.string r1, .string r2, .bool r3, .bool r4, .bool r5, .int .i64 r6, .slice p6 CT.length q6, .slice p7 HT.length q7])) := hid (by exact keeps_row _ _ _)
          have HR16b : Hid ((w10.setRow W8.heap.size #[.string r1, .string r2, .bool r3, .bool r4, .bool r5, .int .i64 r6, .slice p6 CT.length q6, .slice p7 HT.length q7]).heap[W8.heap.size]? = some (.cells #[.string r1, .string r2, .bool r3, .bool r4, .bool r5, .int .i64 r6, .slice p6 CT.length q6, .slice p7 HT.length q7] 25)) := hid (by exact setRow_heap _ _ _ _ _ _ HR16.out)
          have HR13b := hid ((HK11.out.block w8.heap.size (World.block_lt_of_cell? w10 ⟨w8.heap.size, 0, none⟩ (by rw [cell_of_row _ _ _ _ _ _ HR13.out]; rfl)) (by have := H8.out.2.1; omega)).trans HR13.out)
          have HB11 : Hid (Below w.heap.size w (w10.setRow W8.heap.size #[.string r1, .string r2, .bool r3, .bool r4, .bool r5, .int .i64 r6, .slice p6 CT.length q6, .slice p7 HT.length q7]) ∧ Below w8.heap.size w8 (w10.setRow W8.heap.size #[.string r1, .string r2, .bool r3, .bool r4, .bool r5, .int .i64 r6, .slice p6 CT.length q6, .slice p7 HT.length q7])) := hid (by exact ⟨below_setRow HB10.out (by have h1 := H8.out.2.1; have h2 := HL8.out; omega) _, below_setRow HBW.out (Nat.le_of_lt H8.out.2.1) _⟩)
          have hne16 : W8.heap.size < W9.heap.size := H9.out.2.1
          have HC11 := hid (sl_keeps HC6.out HK11.out (fun k' hk' => by have h1 := HN6.out k' hk'; omega))
          have HH11 := hid (sl_keeps HH7.out HK11.out (fun k' hk' => by have h1 := HN7.out k' hk'; omega))
          go_wp2_with (first
            | refine wpList_store_row rfl 25 (.tmp 16) (.tmp 71) rfl W8.heap.size _ rfl rfl 25 _ HR16.out (by kernel_rfl) rfl (by simp [Value.oneCell']) ?_
            | refine wpList_load_row rfl 25 (.tmp 13) rfl w8.heap.size rfl _ _ _ _ HR13b.out Tryd.underlying25 rfl (by kernel_rfl) ?_
            | refine wpList_load_row rfl 25 (.tmp 16) rfl W8.heap.size rfl _ _ _ _ HR16b.out Tryd.underlying25 rfl (by kernel_rfl) ?_)
          refine (smet_same r1 r2 r3 r4 r5 r6 (.slice a7 CT.length c7) (.slice a8 HT.length c8) (.slice p6 CT.length q6) (.slice p7 HT.length q7) CT HT (w10.setRow W8.heap.size #[.string r1, .string r2, .bool r3, .bool r4, .bool r5, .int .i64 r6, .slice p6 CT.length q6, .slice p7 HT.length q7]) (HRC.out.below HB11.out.2) (HRH.out.below HB11.out.2) HC11.out HH11.out HCTL.out.1 HCTL.out.2).mono ?_
          rintro e w12 ⟨rfl, hb12⟩
          have HB12 := hid (HB11.out.1.trans (hb12.mono HB11.out.1.size))
          clear hb12
          go_wp2_with fail
          go_ret
          exact ⟨rfl, HB12.out⟩
        · have HF0 : Hid (hdFault code.length hs ≠ 0) := hid h1
          generalize hdFault code.length hs = F at HTF HF0
          have HXq := HXz
          have HBq := HBz
          have hFq : (F == 0) = false := by have := HF0.out; simpa using this
          clear h0 h1 HXz HBz HLz hFq
          obtain ⟨wq', hwq⟩ : ∃ u, wz = u := ⟨_, rfl⟩
          subst hwq
          have HMT := hid (tmethod_any ⟨nm, ty, st, ab, pr, lo, .slice ac code.length cc, .slice ah hs.length ch, code, hs⟩ wz (HM.out.below HBq.out) (HF.out.below HBq.out) HSM.out)
          simp only [MV.cells] at HMT
          go_wp2_with (refine wpList_load_row rfl 25 (.tmp 3) rfl w.heap.size rfl _ _ _ _ HXq.out Tryd.underlying25 rfl (by kernel_rfl) ?_)
          refine HMT.out.mono ?_
          rintro e w8 ⟨r, rfl, hT, hb8⟩
          have HB8 := hid (HBq.out.trans (hb8.mono HBq.out.size))
          obtain ⟨r1, r2, r3, r4, r5, r6, r7, r8, r9, r10⟩ := r
          obtain ⟨x1, x2, x3, x4, x5, x6, x7, x8, x9, x10⟩ := hT.no (by rw [HTF.out]; exact HF0.out)
          simp only at x1 x2 x3 x4 x5 x6 x7 x8 x9 x10
          subst x1 x2 x3 x4 x5 x6 x7 x8 x9 x10
          clear hT hb8
          rw [HTF.out, show (ByteArray.empty : ByteArray) = { data := #[] } from rfl]
          have hFb : (F == 0) = false := by have := HF0.out; simpa using this
          have hFb2 : ¬ F = 0 := HF0.out
          go_wp2_with fail
          refine (error_same F _).mono ?_
          rintro e w9 ⟨rfl, rfl⟩
          go_wp2_with fail
          refine (smet_same _ _ _ _ _ _ (.slice none 0 0) (.slice none 0 0) (.slice none 0 0) (.slice none 0 0) [] [] _ (Out.nil _ 0 _).sl (Out.nil _ 0 _).sl (Out.nil _ 0 _).sl (Out.nil _ 0 _).sl (by decide) (by decide)).mono ?_
          rintro e w10 ⟨rfl, hb10⟩
          have HB10 := hid ((((HB8.out.alloc HB8.out.size _).alloc (by simp; have := HB8.out.size; omega) _)).trans (hb10.mono (by simp; have := HB8.out.size; omega)))
          clear hb10
          go_wp2_with fail
          go_ret
          exact ⟨rfl, HB10.out⟩
    · have HTF := hid (tm_code (hs := hs) h0)
      have HF0 : Hid (codeFault code ≠ 0) := hid h0
      clear h0
      generalize codeFault code = F at HTF HF0
      have hFa : (F == 0) = false := by have := HF0.out; simpa using this
      have hFa2 : ¬ F = 0 := HF0.out
      have HMT := hid (tmethod_any ⟨nm, ty, st, ab, pr, lo, .slice ac code.length cc, .slice ah hs.length ch, code, hs⟩ wq (HM.out.below HBq.out) (HF.out.below HBq.out) HSM.out)
      simp only [MV.cells] at HMT
      go_wp2_with (refine wpList_load_row rfl 25 (.tmp 3) rfl w.heap.size rfl _ _ _ _ HXq.out Tryd.underlying25 rfl (by kernel_rfl) ?_)
      refine HMT.out.mono ?_
      rintro e w8 ⟨r, rfl, hT, hb8⟩
      have HB8 := hid (HBq.out.trans (hb8.mono HBq.out.size))
      obtain ⟨r1, r2, r3, r4, r5, r6, r7, r8, r9, r10⟩ := r
      obtain ⟨x1, x2, x3, x4, x5, x6, x7, x8, x9, x10⟩ := hT.no (by rw [HTF.out]; exact HF0.out)
      simp only at x1 x2 x3 x4 x5 x6 x7 x8 x9 x10
      subst x1 x2 x3 x4 x5 x6 x7 x8 x9 x10
      clear hT hb8
      rw [HTF.out, show (ByteArray.empty : ByteArray) = { data := #[] } from rfl]
      have hFb : (F == 0) = false := by have := HF0.out; simpa using this
      have hFb2 : ¬ F = 0 := HF0.out
      go_wp2_with fail
      refine (error_same F _).mono ?_
      rintro e w9 ⟨rfl, rfl⟩
      go_wp2_with fail
      refine (smet_same _ _ _ _ _ _ (.slice none 0 0) (.slice none 0 0) (.slice none 0 0) (.slice none 0 0) [] [] _ (Out.nil _ 0 _).sl (Out.nil _ 0 _).sl (Out.nil _ 0 _).sl (Out.nil _ 0 _).sl (by decide) (by decide)).mono ?_
      rintro e w10 ⟨rfl, hb10⟩
      have HB10 := hid ((((HB8.out.alloc HB8.out.size _).alloc (by simp; have := HB8.out.size; omega) _)).trans (hb10.mono (by simp; have := HB8.out.size; omega)))
      clear hb10
      go_wp2_with fail
      go_ret
      exact ⟨rfl, HB10.out⟩
end Go.Proofs.YtklebfkbildifaaDoor.trims
