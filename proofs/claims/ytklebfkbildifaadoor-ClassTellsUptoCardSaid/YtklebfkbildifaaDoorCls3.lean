/- Classes: class.Args; slices.ContainsFunc of methods and of fields; the reference's In. Conditions: the texts are not long. -/
import Derived.Test.YtklebfkbildifaaDoorCls1
import Derived.Test.YtklebfkbildifaaDoorDesc6S
namespace Go.Proofs.YtklebfkbildifaaDoor.classes
open Go.RowKit Go.Proofs.YtklebfkbildifaaDoor.lib Go.Proofs.YtklebfkbildifaaDoor.errs Go.Proofs.YtklebfkbildifaaDoor.names Go.Proofs.YtklebfkbildifaaDoor.descs Go.Proofs.YtklebfkbildifaaDoor.ins Go.Proofs.YtklebfkbildifaaDoor.flows Go.Proofs.YtklebfkbildifaaDoor.hdls

theorem few_args {M g : List UInt8} {ts : List (List UInt8)} (h : methodOf M = some (ts, g)) : ts.length ≤ 5 := by
  cases M with
  | nil => cases h
  | cons c l =>
    by_cases hc : c = 40 ∧ (scan l).2.head? = some 41 ∧ (scan l).1.length ≤ 5 ∧ ((scan l).2.drop 1 = [86] ∨ isTy ((scan l).2.drop 1) = true)
    · rw [methodOf, if_pos hc] at h
      simp only [Option.some.injEq, Prod.mk.injEq] at h
      rw [← h.1]; exact hc.2.2.1
    · rw [methodOf, if_neg hc] at h; cases h

set_option maxRecDepth 100000 in
set_option maxHeartbeats 2000000 in
theorem args_any (nm ty : ByteArray) (st ab pr : Bool) (lo : Int) (ac : Option Addr) (nc cc : Nat) (ah : Option Addr) (nh ch : Nat) (w : World) (hty : ty.size ≤ 10000000) :
    Calls Tryd.prog 134 #[.agg #[.string nm, .string ty, .bool st, .bool ab, .bool pr, .int .i64 lo, .slice ac nc cc, .slice ah nh ch]] w fun e w' => e = .returned (.int .i64 (argsOf st ty.data.toList)) ∧ Below w.heap.size w w' := by
  have HB := hid (ext_alloc w (.cells #[.string nm, .string ty, .bool st, .bool ab, .bool pr, .int .i64 lo, .slice ac nc cc, .slice ah nh ch] 25))
  have HK : Hid ((w.alloc (.cells #[.string nm, .string ty, .bool st, .bool ab, .bool pr, .int .i64 lo, .slice ac nc cc, .slice ah nh ch] 25)).cell? ⟨w.heap.size, 2, none⟩ = some (.bool st)) := hid (by rw [World.cell?_alloc_at _ _ _ _ rfl]; rfl)
  cases hm : methodOf ty.data.toList with
  | none =>
    have HM := hid hm
    have HZ := hid (argsOf_none (st := st) hm)
    clear hm
    go_enter Tryd.func134, Tryd.ntmps134
    go_wp2_with fail
    refine (method_any ty _ hty).mono ?_
    intro e w1 h1
    obtain ⟨rfl, hb1⟩ := methodBy_none HM.out h1
    clear h1
    go_wp2_with fail
    go_ret
    rw [HZ.out]
    exact ⟨rfl, HB.out.trans (hb1.mono HB.out.size)⟩
  | some r =>
    obtain ⟨ts, g⟩ := r
    have HM := hid hm
    have hn5 := few_args hm
    cases st with
    | true =>
      have HZ : Hid (argsOf true ty.data.toList = (ts.length : Int)) := hid (by rw [argsOf_some hm, if_pos rfl])
      clear hm
      go_enter Tryd.func134, Tryd.ntmps134
      go_wp2_with fail
      refine (method_any ty _ hty).mono ?_
      intro e w1 h1
      obtain ⟨v, rfl, ho⟩ := methodBy_some HM.out h1
      clear h1
      obtain ⟨a1, c1, rfl⟩ := ho.sl.val
      have hb1 := ho.below
      have hk : w1.cell? ⟨w.heap.size, 2, none⟩ = some (.bool true) := by rw [hb1.cell (World.block_lt_of_cell? _ _ HK.out)]; exact HK.out
      have HB1 := hid (HB.out.trans (hb1.mono HB.out.size))
      clear ho hb1
      go_wp2_with fail
      go_ret
      rw [HZ.out]
      exact ⟨rfl, HB1.out⟩
    | false =>
      have HZ : Hid (argsOf false ty.data.toList = (ts.length : Int) + 1) := hid (by rw [argsOf_some hm, if_neg (by decide)])
      clear hm
      go_enter Tryd.func134, Tryd.ntmps134
      go_wp2_with fail
      refine (method_any ty _ hty).mono ?_
      intro e w1 h1
      obtain ⟨v, rfl, ho⟩ := methodBy_some HM.out h1
      clear h1
      obtain ⟨a1, c1, rfl⟩ := ho.sl.val
      have hb1 := ho.below
      have hk : w1.cell? ⟨w.heap.size, 2, none⟩ = some (.bool false) := by rw [hb1.cell (World.block_lt_of_cell? _ _ HK.out)]; exact HK.out
      have HB1 := hid (HB.out.trans (hb1.mono HB.out.size))
      clear ho hb1
      go_wp2_with fail
      go_ret
      rw [HZ.out]
      exact ⟨rfl, HB1.out⟩

set_option maxRecDepth 100000 in
set_option maxHeartbeats 2000000 in
/-- the function value: is a method called so -/
theorem twin1_any (n2 t2 nm ty : ByteArray) (st ab pr : Bool) (lo : Int) (ac : Option Addr) (nc cc : Nat) (ah : Option Addr) (nh ch b : Nat) (w : World) (hc0 : w.cell? ⟨b, 0, none⟩ = some (.string nm)) (hc1 : w.cell? ⟨b, 1, none⟩ = some (.string ty)) :
    Calls Tryd.prog 88 #[.agg #[.string n2, .string t2, .bool st, .bool ab, .bool pr, .int .i64 lo, .slice ac nc cc, .slice ah nh ch], .pointer (some ⟨b, 0, none⟩)] w fun e w' => e = .returned (.bool (decide (n2 = nm ∧ t2 = ty))) ∧ Below w.heap.size w w' := by
  have HB := hid (ext_alloc w (.cells #[.string n2, .string t2, .bool st, .bool ab, .bool pr, .int .i64 lo, .slice ac nc cc, .slice ah nh ch] 25))
  have k0 : (w.alloc (.cells #[.string n2, .string t2, .bool st, .bool ab, .bool pr, .int .i64 lo, .slice ac nc cc, .slice ah nh ch] 25)).cell? ⟨b, 0, none⟩ = some (.string nm) := by rw [HB.out.cell (World.block_lt_of_cell? _ _ hc0)]; exact hc0
  have k1 : (w.alloc (.cells #[.string n2, .string t2, .bool st, .bool ab, .bool pr, .int .i64 lo, .slice ac nc cc, .slice ah nh ch] 25)).cell? ⟨b, 1, none⟩ = some (.string ty) := by rw [HB.out.cell (World.block_lt_of_cell? _ _ hc1)]; exact hc1
  clear hc0 hc1
  by_cases h1 : n2 = nm
  · by_cases h2 : t2 = ty
    · have HZ : Hid (decide (n2 = nm ∧ t2 = ty) = true) := hid (decide_eq_true ⟨h1, h2⟩)
      have s1 := str_eqb h1
      have s2 := str_eqb h2
      clear h1 h2
      go_enter Tryd.func88, Tryd.ntmps88
      go_wp2_with fail
      go_ret
      rw [HZ.out]
      exact ⟨rfl, HB.out⟩
    · have HZ : Hid (decide (n2 = nm ∧ t2 = ty) = false) := hid (decide_eq_false (fun h => h2 h.2))
      have s1 := str_eqb h1
      have s2 := str_neb h2
      clear h1 h2
      go_enter Tryd.func88, Tryd.ntmps88
      go_wp2_with fail
      go_ret
      rw [HZ.out]
      exact ⟨rfl, HB.out⟩
  · have HZ : Hid (decide (n2 = nm ∧ t2 = ty) = false) := hid (decide_eq_false (fun h => h1 h.1))
    have s1 := str_neb h1
    clear h1
    go_enter Tryd.func88, Tryd.ntmps88
    go_wp2_with fail
    go_ret
    rw [HZ.out]
    exact ⟨rfl, HB.out⟩

set_option maxRecDepth 100000 in
set_option maxHeartbeats 2000000 in
theorem indexM_any (va : Value) (l : List MV) (nm ty : ByteArray) (b : Nat) (w : World) (ha : Mets w va l) (hc0 : w.cell? ⟨b, 0, none⟩ = some (.string nm)) (hc1 : w.cell? ⟨b, 1, none⟩ = some (.string ty)) (hn : l.length ≤ 1000000000000) :
    Calls Tryd.prog 133 #[va, .func (.func 88) #[] #[.pointer (some ⟨b, 0, none⟩)]] w fun e w' => ∃ z : Int, e = .returned (.int .i64 z) ∧ decide (0 ≤ z) = twin nm ty l ∧ Below w.heap.size w w' := by
  obtain ⟨a, c, rfl⟩ := ha.sl.val
  have HA := hid ha; have HC0 := hid hc0; have HC1 := hid hc1
  clear ha hc0 hc1
  go_enter Tryd.func133, Tryd.ntmps133
  go_wp2_with fail
  go_loopw [8] (fun i wr => ∃ k : Nat, k ≤ l.length ∧ i = .int .i64 k ∧ Hid (Below w.heap.size w wr) ∧ Hid (twin nm ty l = twin nm ty (l.drop k))) (fun i _ => l.length - (intOf i).toNat)
  case atStart => exact ⟨0, Nat.zero_le _, rfl, hid (Below.refl _ _), hid rfl⟩
  case round =>
    obtain ⟨k, hk, rfl, HR, HP⟩ := hrel
    by_cases hlt : k < l.length
    · obtain ⟨bb, off, hab, hd0, hd1, hd2, hd3, hd4, hd5, hd6, hd7⟩ := met_at (HA.out.below HR.out) hlt
      subst hab
      have hi : (0 : Int) ≤ (k : Int) := by omega
      have hkl : (k : Int) < (l.length : Int) := by omega
      have hat := HA.out.at_ _ (List.getElem_mem hlt)
      have HY := hid (fun h => twin_yes (nm := nm) (ty := ty) hlt h)
      have HN := hid (fun h => twin_no (nm := nm) (ty := ty) hlt h)
      generalize l[k] = x at hd0 hd1 hd2 hd3 hd4 hd5 hd6 hd7 hat HY HN
      obtain ⟨n2, t2, st, ab, pr, lo, vc, vh, code, hs⟩ := x
      simp only at hd0 hd1 hd2 hd3 hd4 hd5 hd6 hd7 HY HN
      obtain ⟨ac, cc, hvc⟩ := hat.code.val
      obtain ⟨ah, ch, hvh⟩ := hat.hs.val
      simp only at hvc hvh
      subst hvc hvh
      have HT := hid (twin1_any n2 t2 nm ty st ab pr lo ac code.length cc ah hs.length ch b wr (by rw [HR.out.cell (World.block_lt_of_cell? _ _ HC0.out)]; exact HC0.out) (by rw [HR.out.cell (World.block_lt_of_cell? _ _ HC1.out)]; exact HC1.out))
      clear hat
      go_wp2_with fail
      refine HT.out.mono ?_
      rintro e w1 ⟨rfl, hb1⟩
      have HR1 := hid (HR.out.trans (hb1.mono HR.out.size))
      clear hb1
      by_cases h2 : n2 = nm ∧ t2 = ty
      · have HT2 : Hid (twin nm ty l = true) := hid (HP.out.trans (HY.out h2))
        have e2 : decide (n2 = nm ∧ t2 = ty) = true := decide_eq_true h2
        rw [e2]
        clear h2 e2
        go_wp2_with fail
        go_ret
        exact ⟨_, rfl, by rw [HT2.out]; exact decide_eq_true (by omega), HR1.out⟩
      · have HP2 := hid (HP.out.trans (HN.out h2))
        have e2 : decide (n2 = nm ∧ t2 = ty) = false := decide_eq_false h2
        rw [e2]
        clear h2 e2
        go_wp2_with fail
        go_roundw
        case rel => exact ⟨k + 1, by omega, by go_num, HR1, HP2⟩
        case measure => simp [intOf]; omega
    · have HF : Hid (twin nm ty l = false) := hid (HP.out.trans (twin_end hlt))
      go_wp2_with fail
      go_ret
      exact ⟨_, rfl, by rw [HF.out]; rfl, HR.out⟩

theorem containsM_any (va : Value) (l : List MV) (nm ty : ByteArray) (b : Nat) (w : World) (ha : Mets w va l) (hc0 : w.cell? ⟨b, 0, none⟩ = some (.string nm)) (hc1 : w.cell? ⟨b, 1, none⟩ = some (.string ty)) (hn : l.length ≤ 1000000000000) :
    Calls Tryd.prog 87 #[va, .func (.func 88) #[] #[.pointer (some ⟨b, 0, none⟩)]] w fun e w' => e = .returned (.bool (twin nm ty l)) ∧ Below w.heap.size w w' := by
  have HI := hid (indexM_any va l nm ty b w ha hc0 hc1 hn)
  obtain ⟨a, c, rfl⟩ := ha.sl.val
  clear ha hc0 hc1
  go_enter Tryd.func87, Tryd.ntmps87
  go_wp2_with fail
  refine HI.out.mono ?_
  rintro e w1 ⟨z, rfl, hz, hb⟩
  have HZ := hid hz
  clear hz
  go_wp2_with fail
  go_ret
  exact ⟨by rw [← HZ.out]; rfl, hb⟩

set_option maxRecDepth 100000 in
set_option maxHeartbeats 2000000 in
/-- the function value: is a field called so -/
theorem fd1_any (n2 t2 nm : ByteArray) (b : Nat) (w : World) (hc0 : w.cell? ⟨b, 0, none⟩ = some (.string nm)) :
    Calls Tryd.prog 57 #[.agg #[.string n2, .string t2], .pointer (some ⟨b, 0, none⟩)] w fun e w' => e = .returned (.bool (decide (n2 = nm))) ∧ Below w.heap.size w w' := by
  have HB := hid (ext_alloc w (.cells #[.string n2, .string t2] 92))
  have k0 : (w.alloc (.cells #[.string n2, .string t2] 92)).cell? ⟨b, 0, none⟩ = some (.string nm) := by rw [HB.out.cell (World.block_lt_of_cell? _ _ hc0)]; exact hc0
  clear hc0
  by_cases h1 : n2 = nm
  · have HZ : Hid (decide (n2 = nm) = true) := hid (decide_eq_true h1)
    have s1 := str_eqb h1
    clear h1
    go_enter Tryd.func57, Tryd.ntmps57
    go_wp2_with fail
    go_ret
    rw [HZ.out]
    exact ⟨rfl, HB.out⟩
  · have HZ : Hid (decide (n2 = nm) = false) := hid (decide_eq_false h1)
    have s1 := str_neb h1
    clear h1
    go_enter Tryd.func57, Tryd.ntmps57
    go_wp2_with fail
    go_ret
    rw [HZ.out]
    exact ⟨rfl, HB.out⟩

set_option maxRecDepth 100000 in
set_option maxHeartbeats 2000000 in
theorem indexF_any (va : Value) (l : List Fd) (nm : ByteArray) (b : Nat) (w : World) (ha : Fds w va l) (hc0 : w.cell? ⟨b, 0, none⟩ = some (.string nm)) (hn : l.length ≤ 1000000000000) :
    Calls Tryd.prog 85 #[va, .func (.func 57) #[] #[.pointer (some ⟨b, 0, none⟩)]] w fun e w' => ∃ z : Int, e = .returned (.int .i64 z) ∧ decide (0 ≤ z) = inFds nm l ∧ Below w.heap.size w w' := by
  obtain ⟨a, c, rfl⟩ := ha.val
  have HA := hid ha; have HC0 := hid hc0
  clear ha hc0
  go_enter Tryd.func85, Tryd.ntmps85
  go_wp2_with fail
  go_loopw [8] (fun i wr => ∃ k : Nat, k ≤ l.length ∧ i = .int .i64 k ∧ Hid (Below w.heap.size w wr) ∧ Hid (inFds nm l = inFds nm (l.drop k))) (fun i _ => l.length - (intOf i).toNat)
  case atStart => exact ⟨0, Nat.zero_le _, rfl, hid (Below.refl _ _), hid rfl⟩
  case round =>
    obtain ⟨k, hk, rfl, HR, HP⟩ := hrel
    by_cases hlt : k < l.length
    · obtain ⟨bb, off, hab, hd0, hd1⟩ := fd_at (HA.out.below HR.out) hlt
      subst hab
      have hi : (0 : Int) ≤ (k : Int) := by omega
      have hkl : (k : Int) < (l.length : Int) := by omega
      have HY := hid (fun h => inF_yes (s := nm) hlt h)
      have HN := hid (fun h => inF_no (s := nm) hlt h)
      generalize l[k] = x at hd0 hd1 HY HN
      obtain ⟨n2, t2⟩ := x
      simp only at hd0 hd1 HY HN
      have HT := hid (fd1_any n2 t2 nm b wr (by rw [HR.out.cell (World.block_lt_of_cell? _ _ HC0.out)]; exact HC0.out))
      go_wp2_with fail
      refine HT.out.mono ?_
      rintro e w1 ⟨rfl, hb1⟩
      have HR1 := hid (HR.out.trans (hb1.mono HR.out.size))
      clear hb1
      by_cases h2 : n2 = nm
      · have HT2 : Hid (inFds nm l = true) := hid (HP.out.trans (HY.out h2))
        have e2 : decide (n2 = nm) = true := decide_eq_true h2
        rw [e2]
        clear h2 e2
        go_wp2_with fail
        go_ret
        exact ⟨_, rfl, by rw [HT2.out]; exact decide_eq_true (by omega), HR1.out⟩
      · have HP2 := hid (HP.out.trans (HN.out h2))
        have e2 : decide (n2 = nm) = false := decide_eq_false h2
        rw [e2]
        clear h2 e2
        go_wp2_with fail
        go_roundw
        case rel => exact ⟨k + 1, by omega, by go_num, HR1, HP2⟩
        case measure => simp [intOf]; omega
    · have HF : Hid (inFds nm l = false) := hid (HP.out.trans (inF_end hlt))
      go_wp2_with fail
      go_ret
      exact ⟨_, rfl, by rw [HF.out]; rfl, HR.out⟩

theorem containsF_any (va : Value) (l : List Fd) (nm : ByteArray) (b : Nat) (w : World) (ha : Fds w va l) (hc0 : w.cell? ⟨b, 0, none⟩ = some (.string nm)) (hn : l.length ≤ 1000000000000) :
    Calls Tryd.prog 56 #[va, .func (.func 57) #[] #[.pointer (some ⟨b, 0, none⟩)]] w fun e w' => e = .returned (.bool (inFds nm l)) ∧ Below w.heap.size w w' := by
  have HI := hid (indexF_any va l nm b w ha hc0 hn)
  obtain ⟨a, c, rfl⟩ := ha.val
  clear ha hc0
  go_enter Tryd.func56, Tryd.ntmps56
  go_wp2_with fail
  refine HI.out.mono ?_
  rintro e w1 ⟨z, rfl, hz, hb⟩
  have HZ := hid hz
  clear hz
  go_wp2_with fail
  go_ret
  exact ⟨by rw [← HZ.out]; rfl, hb⟩
end Go.Proofs.YtklebfkbildifaaDoor.classes
