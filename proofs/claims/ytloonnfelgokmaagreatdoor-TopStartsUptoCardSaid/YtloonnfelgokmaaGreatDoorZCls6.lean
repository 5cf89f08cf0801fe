/- Classes: class.Check. Conditions: the table lies in its variable; the class is not long. -/
import Derived.Maps.RangeWalk
import Derived.Deep.DeepCutAuto
import Derived.Test.YtloonnfelgokmaaGreatDoorZHdl1
import Derived.Test.YtloonnfelgokmaaGreatDoorZGrow
import Derived.Test.YtloonnfelgokmaaGreatDoorZCls1
import Derived.Test.YtloonnfelgokmaaGreatDoorZDescZ
set_option maxRecDepth 100000
set_option maxHeartbeats 16000000
set_option linter.unusedSimpArgs false
set_option linter.unusedVariables false
namespace Go.Proofs.YtloonnfelgokmaaGreatDoor.classes
open Go.RowKit lib errs names descs ins flows hdls
theorem few_args {M g : List UInt8} {ts : List (List UInt8)} (h : methodOf M = some (ts, g)) : ts.length ≤ 5 := by
 cases M with
 | nil => cases h
 | cons c l =>
  by_cases hc : c = 40 ∧ (scan l).2.head? = some 41 ∧ (scan l).1.length ≤ 5 ∧ ((scan l).2.drop 1 = [86] ∨ isTy ((scan l).2.drop 1) = true)
  ·rw [methodOf, if_pos hc] at h
   simp only [Option.some.injEq, Prod.mk.injEq] at h
   rw [← h.1]; exact hc.2.2.1
  ·rw [methodOf, if_neg hc] at h; cases h
theorem args_any (nm ty : ByteArray) (st ab pr : Bool) (lo : Int) (ac : Option Addr) (nc cc : Nat) (ah : Option Addr) (nh ch : Nat) (w : World) (hty : ty.size ≤ 10000000) :
  Calls Tryz.prog 196 #[.agg #[.string nm, .string ty, .bool st, .bool ab, .bool pr, .int .i64 lo, .slice ac nc cc, .slice ah nh ch]] w fun e w' => e = .returned (.int .i64 (argsOf st ty.data.toList)) ∧ Below w.heap.size w w' := by
 have HB := hid (ext_alloc w (.cells #[.string nm, .string ty, .bool st, .bool ab, .bool pr, .int .i64 lo, .slice ac nc cc, .slice ah nh ch] 44))
 have HK : Hid ((w.alloc (.cells #[.string nm, .string ty, .bool st, .bool ab, .bool pr, .int .i64 lo, .slice ac nc cc, .slice ah nh ch] 44)).cell? ⟨w.heap.size, 2, none⟩ = some (.bool st)) := hid (by rw [World.cell?_alloc_at _ _ _ _ rfl]; rfl)
 cases hm : methodOf ty.data.toList with
 | none =>
  have HM := hid hm
  have HZ := hid (argsOf_none (st := st) hm)
  clear hm
  go_enter Tryz.func196, Tryz.ntmps196
  go_wp2_with fail
  refine (method_any ty _ hty).mono ?_
  intro e w1 h1
  obtain ⟨rfl, hb1⟩ := methodBy_none HM.out h1
  clear h1
  go_wp2_with fail
  go_ret
  rw [HZ.out]
  exact ⟨rfl, HB.out.trans (hb1.mono HB.out.size)⟩
 | some r =>
  obtain ⟨ts, g⟩ := r
  have HM := hid hm
  have hn5 := few_args hm
  cases st with
  | true =>
   have HZ : Hid (argsOf true ty.data.toList = (ts.length : Int)) := hid (by rw [argsOf_some hm, if_pos rfl])
   clear hm
   go_enter Tryz.func196, Tryz.ntmps196
   go_wp2_with fail
   refine (method_any ty _ hty).mono ?_
   intro e w1 h1
   obtain ⟨v, rfl, ho⟩ := methodBy_some HM.out h1
   clear h1
   obtain ⟨a1, c1, rfl⟩ := ho.sl.val
   have hb1 := ho.below
   have hk : w1.cell? ⟨w.heap.size, 2, none⟩ = some (.bool true) := by rw [hb1.cell (World.block_lt_of_cell? _ _ HK.out)]; exact HK.out
   have HB1 := hid (HB.out.trans (hb1.mono HB.out.size))
   clear ho hb1
   go_wp2_with fail
   go_ret
   rw [HZ.out]
   exact ⟨rfl, HB1.out⟩
  | false =>
   have HZ : Hid (argsOf false ty.data.toList = (ts.length : Int) + 1) := hid (by rw [argsOf_some hm, if_neg (by decide)])
   clear hm
   go_enter Tryz.func196, Tryz.ntmps196
   go_wp2_with fail
   refine (method_any ty _ hty).mono ?_
   intro e w1 h1
   obtain ⟨v, rfl, ho⟩ := methodBy_some HM.out h1
   clear h1
   obtain ⟨a1, c1, rfl⟩ := ho.sl.val
   have hb1 := ho.below
   have hk : w1.cell? ⟨w.heap.size, 2, none⟩ = some (.bool false) := by rw [hb1.cell (World.block_lt_of_cell? _ _ HK.out)]; exact HK.out
   have HB1 := hid (HB.out.trans (hb1.mono HB.out.size))
   clear ho hb1
   go_wp2_with fail
   go_ret
   rw [HZ.out]
   exact ⟨rfl, HB1.out⟩
theorem twin1_any (n2 t2 nm ty : ByteArray) (st ab pr : Bool) (lo : Int) (ac : Option Addr) (nc cc : Nat) (ah : Option Addr) (nh ch b : Nat) (w : World) (hc0 : w.cell? ⟨b, 0, none⟩ = some (.string nm)) (hc1 : w.cell? ⟨b, 1, none⟩ = some (.string ty)) :
  Calls Tryz.prog 150 #[.agg #[.string n2, .string t2, .bool st, .bool ab, .bool pr, .int .i64 lo, .slice ac nc cc, .slice ah nh ch], .pointer (some ⟨b, 0, none⟩)] w fun e w' => e = .returned (.bool (decide (n2 = nm ∧ t2 = ty))) ∧ Below w.heap.size w w' := by
 have HB := hid (ext_alloc w (.cells #[.string n2, .string t2, .bool st, .bool ab, .bool pr, .int .i64 lo, .slice ac nc cc, .slice ah nh ch] 44))
 have k0 : (w.alloc (.cells #[.string n2, .string t2, .bool st, .bool ab, .bool pr, .int .i64 lo, .slice ac nc cc, .slice ah nh ch] 44)).cell? ⟨b, 0, none⟩ = some (.string nm) := by rw [HB.out.cell (World.block_lt_of_cell? _ _ hc0)]; exact hc0
 have k1 : (w.alloc (.cells #[.string n2, .string t2, .bool st, .bool ab, .bool pr, .int .i64 lo, .slice ac nc cc, .slice ah nh ch] 44)).cell? ⟨b, 1, none⟩ = some (.string ty) := by rw [HB.out.cell (World.block_lt_of_cell? _ _ hc1)]; exact hc1
 clear hc0 hc1
 by_cases h1 : n2 = nm
 ·by_cases h2 : t2 = ty
  ·have HZ : Hid (decide (n2 = nm ∧ t2 = ty) = true) := hid (decide_eq_true ⟨h1, h2⟩)
   have s1 := str_eqb h1
   have s2 := str_eqb h2
   clear h1 h2
   go_enter Tryz.func150, Tryz.ntmps150
   go_wp2_with fail
   go_ret
   rw [HZ.out]
   exact ⟨rfl, HB.out⟩
  ·have HZ : Hid (decide (n2 = nm ∧ t2 = ty) = false) := hid (decide_eq_false (fun h => h2 h.2))
   have s1 := str_eqb h1
   have s2 := str_neb h2
   clear h1 h2
   go_enter Tryz.func150, Tryz.ntmps150
   go_wp2_with fail
   go_ret
   rw [HZ.out]
   exact ⟨rfl, HB.out⟩
 ·have HZ : Hid (decide (n2 = nm ∧ t2 = ty) = false) := hid (decide_eq_false (fun h => h1 h.1))
  have s1 := str_neb h1
  clear h1
  go_enter Tryz.func150, Tryz.ntmps150
  go_wp2_with fail
  go_ret
  rw [HZ.out]
  exact ⟨rfl, HB.out⟩
theorem indexM_any (va : Value) (l : List MV) (nm ty : ByteArray) (b : Nat) (w : World) (ha : Mets w va l) (hc0 : w.cell? ⟨b, 0, none⟩ = some (.string nm)) (hc1 : w.cell? ⟨b, 1, none⟩ = some (.string ty)) (hn : l.length ≤ 1000000000000) :
  Calls Tryz.prog 25 #[va, .func (.func 150) #[] #[.pointer (some ⟨b, 0, none⟩)]] w fun e w' => ∃ z : Int, e = .returned (.int .i64 z) ∧ decide (0 ≤ z) = twin nm ty l ∧ Below w.heap.size w w' := by
 obtain ⟨a, c, rfl⟩ := ha.sl.val
 have HA := hid ha; have HC0 := hid hc0; have HC1 := hid hc1
 clear ha hc0 hc1
 go_enter Tryz.func25, Tryz.ntmps25
 go_wp2_with fail
 go_loopw [8] (fun i wr => ∃ k : Nat, k ≤ l.length ∧ i = .int .i64 k ∧ Hid (Below w.heap.size w wr) ∧ Hid (twin nm ty l = twin nm ty (l.drop k))) (fun i _ => l.length - (intOf i).toNat)
 case atStart => exact ⟨0, Nat.zero_le _, rfl, hid (Below.refl _ _), hid rfl⟩
 case round =>
  obtain ⟨k, hk, rfl, HR, HP⟩ := hrel
  by_cases hlt : k < l.length
  ·obtain ⟨bb, off, hab, hd0, hd1, hd2, hd3, hd4, hd5, hd6, hd7⟩ := met_at (HA.out.below HR.out) hlt
   subst hab
   have hi : (0 : Int) ≤ (k : Int) := by omega
   have hkl : (k : Int) < (l.length : Int) := by omega
   have hat := HA.out.at_ _ (List.getElem_mem hlt)
   have HY := hid (fun h => twin_yes (nm := nm) (ty := ty) hlt h)
   have HN := hid (fun h => twin_no (nm := nm) (ty := ty) hlt h)
   generalize l[k] = x at hd0 hd1 hd2 hd3 hd4 hd5 hd6 hd7 hat HY HN
   obtain ⟨n2, t2, st, ab, pr, lo, vc, vh, code, hs⟩ := x
   simp only at hd0 hd1 hd2 hd3 hd4 hd5 hd6 hd7 HY HN
   obtain ⟨ac, cc, hvc⟩ := hat.code.val
   obtain ⟨ah, ch, hvh⟩ := hat.hs.val
   simp only at hvc hvh
   subst hvc hvh
   have HT := hid (twin1_any n2 t2 nm ty st ab pr lo ac code.length cc ah hs.length ch b wr (by rw [HR.out.cell (World.block_lt_of_cell? _ _ HC0.out)]; exact HC0.out) (by rw [HR.out.cell (World.block_lt_of_cell? _ _ HC1.out)]; exact HC1.out))
   clear hat
   go_wp2_with fail
   refine HT.out.mono ?_
   rintro e w1 ⟨rfl, hb1⟩
   have HR1 := hid (HR.out.trans (hb1.mono HR.out.size))
   clear hb1
   by_cases h2 : n2 = nm ∧ t2 = ty
   ·have HT2 : Hid (twin nm ty l = true) := hid (HP.out.trans (HY.out h2))
    have e2 : decide (n2 = nm ∧ t2 = ty) = true := decide_eq_true h2
    rw [e2]
    clear h2 e2
    go_wp2_with fail
    go_ret
    exact ⟨_, rfl, by rw [HT2.out]; exact decide_eq_true (by omega), HR1.out⟩
   ·have HP2 := hid (HP.out.trans (HN.out h2))
    have e2 : decide (n2 = nm ∧ t2 = ty) = false := decide_eq_false h2
    rw [e2]
    clear h2 e2
    go_wp2_with fail
    go_roundw
    case rel => exact ⟨k + 1, by omega, by go_num, HR1, HP2⟩
    case measure => simp [intOf]; omega
  ·have HF : Hid (twin nm ty l = false) := hid (HP.out.trans (twin_end hlt))
   go_wp2_with fail
   go_ret
   exact ⟨_, rfl, by rw [HF.out]; rfl, HR.out⟩
theorem containsM_any (va : Value) (l : List MV) (nm ty : ByteArray) (b : Nat) (w : World) (ha : Mets w va l) (hc0 : w.cell? ⟨b, 0, none⟩ = some (.string nm)) (hc1 : w.cell? ⟨b, 1, none⟩ = some (.string ty)) (hn : l.length ≤ 1000000000000) :
  Calls Tryz.prog 149 #[va, .func (.func 150) #[] #[.pointer (some ⟨b, 0, none⟩)]] w fun e w' => e = .returned (.bool (twin nm ty l)) ∧ Below w.heap.size w w' := by
 have HI := hid (indexM_any va l nm ty b w ha hc0 hc1 hn)
 obtain ⟨a, c, rfl⟩ := ha.sl.val
 clear ha hc0 hc1
 go_enter Tryz.func149, Tryz.ntmps149
 go_wp2_with fail
 refine HI.out.mono ?_
 rintro e w1 ⟨z, rfl, hz, hb⟩
 have HZ := hid hz
 clear hz
 go_wp2_with fail
 go_ret
 exact ⟨by rw [← HZ.out]; rfl, hb⟩
theorem fd1_any (n2 t2 nm : ByteArray) (b : Nat) (w : World) (hc0 : w.cell? ⟨b, 0, none⟩ = some (.string nm)) :
  Calls Tryz.prog 83 #[.agg #[.string n2, .string t2], .pointer (some ⟨b, 0, none⟩)] w fun e w' => e = .returned (.bool (decide (n2 = nm))) ∧ Below w.heap.size w w' := by
 have HB := hid (ext_alloc w (.cells #[.string n2, .string t2] 153))
 have k0 : (w.alloc (.cells #[.string n2, .string t2] 153)).cell? ⟨b, 0, none⟩ = some (.string nm) := by rw [HB.out.cell (World.block_lt_of_cell? _ _ hc0)]; exact hc0
 clear hc0
 by_cases h1 : n2 = nm
 ·have HZ : Hid (decide (n2 = nm) = true) := hid (decide_eq_true h1)
  have s1 := str_eqb h1
  clear h1
  go_enter Tryz.func83, Tryz.ntmps83
  go_wp2_with fail
  go_ret
  rw [HZ.out]
  exact ⟨rfl, HB.out⟩
 ·have HZ : Hid (decide (n2 = nm) = false) := hid (decide_eq_false h1)
  have s1 := str_neb h1
  clear h1
  go_enter Tryz.func83, Tryz.ntmps83
  go_wp2_with fail
  go_ret
  rw [HZ.out]
  exact ⟨rfl, HB.out⟩
theorem indexF_any (va : Value) (l : List Fd) (nm : ByteArray) (b : Nat) (w : World) (ha : Fds w va l) (hc0 : w.cell? ⟨b, 0, none⟩ = some (.string nm)) (hn : l.length ≤ 1000000000000) :
  Calls Tryz.prog 148 #[va, .func (.func 83) #[] #[.pointer (some ⟨b, 0, none⟩)]] w fun e w' => ∃ z : Int, e = .returned (.int .i64 z) ∧ decide (0 ≤ z) = inFds nm l ∧ Below w.heap.size w w' := by
 obtain ⟨a, c, rfl⟩ := ha.val
 have HA := hid ha; have HC0 := hid hc0
 clear ha hc0
 go_enter Tryz.func148, Tryz.ntmps148
 go_wp2_with fail
 go_loopw [8] (fun i wr => ∃ k : Nat, k ≤ l.length ∧ i = .int .i64 k ∧ Hid (Below w.heap.size w wr) ∧ Hid (inFds nm l = inFds nm (l.drop k))) (fun i _ => l.length - (intOf i).toNat)
 case atStart => exact ⟨0, Nat.zero_le _, rfl, hid (Below.refl _ _), hid rfl⟩
 case round =>
  obtain ⟨k, hk, rfl, HR, HP⟩ := hrel
  by_cases hlt : k < l.length
  ·obtain ⟨bb, off, hab, hd0, hd1⟩ := fd_at (HA.out.below HR.out) hlt
   subst hab
   have hi : (0 : Int) ≤ (k : Int) := by omega
   have hkl : (k : Int) < (l.length : Int) := by omega
   have HY := hid (fun h => inF_yes (s := nm) hlt h)
   have HN := hid (fun h => inF_no (s := nm) hlt h)
   generalize l[k] = x at hd0 hd1 HY HN
   obtain ⟨n2, t2⟩ := x
   simp only at hd0 hd1 HY HN
   have HT := hid (fd1_any n2 t2 nm b wr (by rw [HR.out.cell (World.block_lt_of_cell? _ _ HC0.out)]; exact HC0.out))
   go_wp2_with fail
   refine HT.out.mono ?_
   rintro e w1 ⟨rfl, hb1⟩
   have HR1 := hid (HR.out.trans (hb1.mono HR.out.size))
   clear hb1
   by_cases h2 : n2 = nm
   ·have HT2 : Hid (inFds nm l = true) := hid (HP.out.trans (HY.out h2))
    have e2 : decide (n2 = nm) = true := decide_eq_true h2
    rw [e2]
    clear h2 e2
    go_wp2_with fail
    go_ret
    exact ⟨_, rfl, by rw [HT2.out]; exact decide_eq_true (by omega), HR1.out⟩
   ·have HP2 := hid (HP.out.trans (HN.out h2))
    have e2 : decide (n2 = nm) = false := decide_eq_false h2
    rw [e2]
    clear h2 e2
    go_wp2_with fail
    go_roundw
    case rel => exact ⟨k + 1, by omega, by go_num, HR1, HP2⟩
    case measure => simp [intOf]; omega
  ·have HF : Hid (inFds nm l = false) := hid (HP.out.trans (inF_end hlt))
   go_wp2_with fail
   go_ret
   exact ⟨_, rfl, by rw [HF.out]; rfl, HR.out⟩
theorem containsF_any (va : Value) (l : List Fd) (nm : ByteArray) (b : Nat) (w : World) (ha : Fds w va l) (hc0 : w.cell? ⟨b, 0, none⟩ = some (.string nm)) (hn : l.length ≤ 1000000000000) :
  Calls Tryz.prog 82 #[va, .func (.func 83) #[] #[.pointer (some ⟨b, 0, none⟩)]] w fun e w' => e = .returned (.bool (inFds nm l)) ∧ Below w.heap.size w w' := by
 have HI := hid (indexF_any va l nm b w ha hc0 hn)
 obtain ⟨a, c, rfl⟩ := ha.val
 clear ha hc0
 go_enter Tryz.func82, Tryz.ntmps82
 go_wp2_with fail
 refine HI.out.mono ?_
 rintro e w1 ⟨z, rfl, hz, hb⟩
 have HZ := hid hz
 clear hz
 go_wp2_with fail
 go_ret
 exact ⟨by rw [← HZ.out]; rfl, hb⟩
open Go.RowKit lib errs names descs ins flows hdls grow
theorem body_abs (nm ty : ByteArray) (st pr : Bool) (lo : Int) (ac : Option Addr) (n cc : Nat) (ah : Option Addr) (m ch : Nat) (w : World) (hn : n ≤ 1000000000000) (hm : m ≤ 1000000000000) :
  Calls Tryz.prog 151 #[.agg #[.string nm, .string ty, .bool st, .bool true, .bool pr, .int .i64 lo, .slice ac n cc, .slice ah m ch]] w fun e w' => e = .returned (errVal (absFault st pr n m)) ∧ Below w.heap.size w w' := by
 have HB := hid (ext_alloc w (.cells #[.string nm, .string ty, .bool st, .bool true, .bool pr, .int .i64 lo, .slice ac n cc, .slice ah m ch] 44))
 cases st with
 | true =>
  have HZ := hid (abs_bad (st := true) (pr := pr) (n := n) (m := m) (.inl rfl)).1
  go_enter Tryz.func151, Tryz.ntmps151
  go_wp2_with fail
  go_ret
  rw [HZ.out]
  exact ⟨rfl, HB.out⟩
 | false =>
  cases pr with
  | true =>
   have HZ := hid (abs_bad (st := false) (pr := true) (n := n) (m := m) (.inr (.inl rfl))).1
   go_enter Tryz.func151, Tryz.ntmps151
   go_wp2_with fail
   go_ret
   rw [HZ.out]
   exact ⟨rfl, HB.out⟩
  | false =>
   by_cases h1 : 0 < n
   ·have HZ := hid (abs_bad (st := false) (pr := false) (n := n) (m := m) (.inr (.inr (.inl h1)))).1
    have k1 : (0 : Int) < (n : Int) := by omega
    go_enter Tryz.func151, Tryz.ntmps151
    go_wp2_with fail
    go_ret
    rw [HZ.out]
    exact ⟨rfl, HB.out⟩
   ·obtain rfl : n = 0 := by omega
    by_cases h2 : 0 < m
    ·have HZ := hid (abs_bad (st := false) (pr := false) (n := 0) (m := m) (.inr (.inr (.inr h2)))).1
     have k2 : (0 : Int) < (m : Int) := by omega
     clear h1
     go_enter Tryz.func151, Tryz.ntmps151
     go_wp2_with fail
     go_ret
     rw [HZ.out]
     exact ⟨rfl, HB.out⟩
    ·obtain rfl : m = 0 := by omega
     have HZ := hid (abs_good (st := false) (pr := false) (n := 0) (m := 0) (by decide)).1
     clear h1 h2
     go_enter Tryz.func151, Tryz.ntmps151
     go_wp2_with fail
     go_ret
     rw [HZ.out]
     exact ⟨rfl, HB.out⟩
theorem loc_true {op : Int} (h : op = 4 ∨ op = 5) : locOp op = true := decide_eq_true h
theorem loc_false {op : Int} (h1 : ¬ op = 4) (h2 : ¬ op = 5) : ¬ locOp op = true := by unfold locOp; simp [h1, h2]
theorem body_act (nm ty : ByteArray) (st pr : Bool) (lo : Int) (vc vh : Value) (l : List I) (hs : List Hd) (w : World) (hc : flows.Code w vc l) (hv : Hds w vh hs) (hf : FormsAt w) (hsm : SmallM ⟨nm, ty, st, false, pr, lo, vc, vh, l, hs⟩) :
  Calls Tryz.prog 151 #[.agg #[.string nm, .string ty, .bool st, .bool false, .bool pr, .int .i64 lo, vc, vh]] w fun e w' => e = .returned (errVal (bodyFault ⟨nm, ty, st, false, pr, lo, vc, vh, l, hs⟩)) ∧ Below w.heap.size w w' := by
 obtain ⟨ac, cc, rfl⟩ := hc.val
 obtain ⟨ah, ch, rfl⟩ := hv.val
 obtain ⟨W0, hW0⟩ : ∃ W0, w.alloc (.cells #[.string nm, .string ty, .bool st, .bool false, .bool pr, .int .i64 lo, .slice ac l.length cc, .slice ah hs.length ch] 44) = W0 := ⟨_, rfl⟩
 have HBX : Hid (W0.heap[w.heap.size]? = some (.cells #[.string nm, .string ty, .bool st, .bool false, .bool pr, .int .i64 lo, .slice ac l.length cc, .slice ah hs.length ch] 44)) := hid (by subst hW0; exact heap_alloc_new _ _)
 have HB0 : Hid (Below w.heap.size w W0 ∧ w.heap.size < W0.heap.size) := hid (by subst hW0; exact ⟨ext_alloc _ _, by rw [World.size_alloc]; exact Nat.lt_succ_self _⟩)
 have HSM := hid hsm
 have HC := hid hc
 have HV := hid hv
 have HLN := hid (show l.length ≤ 1048576 ∧ hs.length ≤ 1048576 ∧ ty.size ≤ 1048576 from ⟨hsm.len, hsm.hlen, hsm.ty⟩)
 have HFC := hid (fcheck_any (.slice ac l.length cc) l W0 (hc.below HB0.out.1) (hf.below HB0.out.1) hsm.code (by have := hsm.len; simp only at this; omega))
 obtain ⟨Z, hZ⟩ : ∃ Z, bodyFault ⟨nm, ty, st, false, pr, lo, .slice ac l.length cc, .slice ah hs.length ch, l, hs⟩ = Z := ⟨_, rfl⟩
 obtain ⟨A, hA⟩ : ∃ A, argsOf st ty.data.toList = A := ⟨_, rfl⟩
 have HZ : Hid ((if codeFault l ≠ 0 then codeFault l else if lo < A then 2 else if farLoc lo l = true then 2 else hdFault l.length hs) = Z) := hid (by rw [← hZ, ← hA]; rfl)
 rw [hZ]
 have HA := hid hA
 have hk3 : W0.cell? ⟨w.heap.size, 3, none⟩ = some (.bool false) := by rw [cell_of_row _ _ _ _ _ _ HBX.out]; rfl
 have hk6 : W0.cell? ⟨w.heap.size, 6, none⟩ = some (.slice ac l.length cc) := by rw [cell_of_row _ _ _ _ _ _ HBX.out]; rfl
 clear hc hv hf hsm hZ hA
 go_enter Tryz.func151, Tryz.ntmps151
 go_wp2_with fail
 refine HFC.out.mono ?_
 rintro e w2 ⟨rfl, hb2⟩
 have HBX2 := hid ((hb2.block _ HB0.out.2).trans HBX.out)
 have HB2 := hid (HB0.out.1.trans (hb2.mono HB0.out.1.size))
 have HW2 := hid (show w.heap.size < w2.heap.size from Nat.lt_of_lt_of_le HB0.out.2 hb2.size)
 clear hb2 hk3 hk6
 by_cases h0 : codeFault l = 0
 ·rw [errVal_zero h0]
  have HZ1 : Hid ((if lo < A then 2 else if farLoc lo l = true then 2 else hdFault l.length hs) = Z) := hid (by have := HZ.out; rwa [if_neg (by omega)] at this)
  clear h0 hW0
  go_wp2_with fail
  refine wp_region_ext [(3, is (.int .i64 A))] ⟨is_stays _, trivial⟩ (by kernel_rfl) (by kernel_rfl) ?_
  refine zgc 1 ?_
  go_frame
  refine wpG_read 2 rfl rfl (.int .i64 lo) rfl ?_ ?_
  ·intro u hu hh
   have hrow := (hu.block _ HW2.out).trans HBX2.out
   have hk5 : u.cell? ⟨w.heap.size, 5, none⟩ = some (.int .i64 lo) := by rw [cell_of_row _ _ _ _ _ _ hrow]; rfl
   go_simp
  go_frame
  refine wpG_row 3 rfl rfl rfl 44 _ rfl w.heap.size rfl _ _ _ _ Tryz.underlying44 rfl (by kernel_rfl) (fun u hu => (hu.block _ HW2.out).trans HBX2.out) ?_
  go_frame
  refine wpG_rel 4 rfl rfl rfl ?_ ?_
  ·intro u hu hh
   go_simp
   refine (args_any nm ty st false pr lo ac l.length cc ah hs.length ch u (by have := HLN.out.2.2; omega)).mono ?_
   rintro e w6 ⟨rfl, hb6⟩
   exact ⟨_, rfl, by rw [HA.out]; rfl, hb6⟩
  intro v4 ⟨u4, _, hr4⟩
  obtain rfl : v4 = .int .i64 A := hr4
  go_frame
  refine zgc 5 ?_
  go_frame
  refine wpG_nil fun w3 hb3 hF => ?_
  clear hF
  have HBX3 := hid ((hb3.block _ HW2.out).trans HBX2.out)
  have HB3 := hid (HB2.out.trans (hb3.mono HB2.out.size))
  have HW3 := hid (Nat.lt_of_lt_of_le HW2.out hb3.size)
  clear hb3
  by_cases h1 : lo < A
  ·have HZ2 : Hid (Z = 2) := hid (by have := HZ1.out; rw [if_pos h1] at this; exact this.symm)
   go_wp2_with fail
   go_ret
   rw [HZ2.out]
   exact ⟨rfl, HB3.out⟩
  ·have HZ2 : Hid ((if farLoc lo l = true then 2 else hdFault l.length hs) = Z) := hid (by have := HZ1.out; rwa [if_neg h1] at this)
   have hk6 : w3.cell? ⟨w.heap.size, 6, none⟩ = some (.slice ac l.length cc) := by rw [cell_of_row _ _ _ _ _ _ HBX3.out]; rfl
   go_wp2_with fail
   clear h1 hk6
   go_loopw [42] (fun i wr => ∃ k : Nat, k ≤ l.length ∧ i = .int .i64 k ∧ Hid (Below w3.heap.size w3 wr) ∧ Hid (farLoc lo l = farLoc lo (l.drop k))) (fun i _ => l.length - (intOf i).toNat)
   case atStart => exact ⟨0, Nat.zero_le _, rfl, hid (Below.refl _ _), hid rfl⟩
   case round =>
    obtain ⟨k, hk, rfl, HR, HP⟩ := hrel
    have hll : l.length ≤ 1048576 := HLN.out.1
    have HB4 := hid (HB3.out.trans (HR.out.mono HB3.out.size))
    by_cases hlt : k < l.length
    ·obtain ⟨b, off, hab, hc0, hc1, hc2, hc3, hc4, hc5⟩ := code_at (HC.out.below HB4.out) hlt
     subst hab
     have hi : (0 : Int) ≤ (k : Int) := by omega
     have hkl : (k : Int) < (l.length : Int) := by omega
     have HOK := hid (fun h => HP.out.trans (far_ok (lo := lo) hlt h))
     have HNO := hid (fun h => HP.out.trans (far_no (lo := lo) hlt h))
     generalize l[k] = x at hc0 hc1 hc2 hc3 hc4 hc5 HOK HNO
     obtain ⟨op, xa, xb, t, xc, xn⟩ := x
     simp only at HOK HNO hc0 hc1 hc2 hc3 hc4 hc5
     have HE := hid (ext_alloc wr (.cells #[.int .i64 op, .int .i64 xa, .int .i64 xb, .string t, .string xc, .string xn] 56))
     have HB5 := hid (HB4.out.trans (HE.out.mono HB4.out.size))
     have HR5 := hid (HR.out.trans (HE.out.mono HR.out.size))
     have hk5 : (wr.alloc (.cells #[.int .i64 op, .int .i64 xa, .int .i64 xb, .string t, .string xc, .string xn] 56)).cell? ⟨w.heap.size, 5, none⟩ = some (.int .i64 lo) := by
      rw [cell_of_row _ _ _ _ _ _ ((HR5.out.block _ HW3.out).trans HBX3.out)]; rfl
     by_cases h4 : op = 4
     ·subst h4
      by_cases hlo : lo ≤ xa
      ·have HZ3 : Hid (Z = 2) := hid (by have := HZ2.out; rw [if_pos (HNO.out ⟨loc_true (.inl rfl), hlo⟩)] at this; exact this.symm)
       go_wp2_with fail
       go_ret
       rw [HZ3.out]
       exact ⟨rfl, HB5.out⟩
      ·have HN := hid (HOK.out (fun h => hlo h.2))
       go_wp2_with fail
       go_roundw
       case rel => exact ⟨k + 1, by omega, by go_num, HR5, HN⟩
       case measure => simp [intOf]; omega
     ·have n4 : (op == 4) = false := by simpa using h4
      by_cases h5 : op = 5
      ·subst h5
       clear h4 n4
       by_cases hlo : lo ≤ xa
       ·have HZ3 : Hid (Z = 2) := hid (by have := HZ2.out; rw [if_pos (HNO.out ⟨loc_true (.inr rfl), hlo⟩)] at this; exact this.symm)
        go_wp2_with fail
        go_ret
        rw [HZ3.out]
        exact ⟨rfl, HB5.out⟩
       ·have HN := hid (HOK.out (fun h => hlo h.2))
        go_wp2_with fail
        go_roundw
        case rel => exact ⟨k + 1, by omega, by go_num, HR5, HN⟩
        case measure => simp [intOf]; omega
      ·have n5 : (op == 5) = false := by simpa using h5
       have HN := hid (HOK.out (fun h => loc_false h4 h5 h.1))
       go_wp2_with fail
       go_roundw
       case rel => exact ⟨k + 1, by omega, by go_num, HR5, HN⟩
       case measure => simp [intOf]; omega
    ·have HF : Hid (hdFault l.length hs = Z) := hid (by
      have h9 := HZ2.out
      rw [if_neg (by rw [HP.out, far_end hlt]; decide)] at h9
      exact h9)
     have HBX4 := hid ((HR.out.block _ HW3.out).trans HBX3.out)
     have HHD := hid (handlers_any nm ty st false pr lo ac l.length cc (.slice ah hs.length ch) hs wr (HV.out.below HB4.out) (fun h hh => by have := HSM.out.hs h hh; omega) (by have := HLN.out.2.1; omega))
     go_wp2_with (refine wpList_load_row rfl 44 (.tmp 1) rfl w.heap.size rfl _ _ _ _ HBX4.out Tryz.underlying44 rfl (by kernel_rfl) ?_)
     refine HHD.out.mono ?_
     rintro e w5 ⟨rfl, hb5⟩
     go_wp2_with fail
     go_ret
     rw [HF.out]
     exact ⟨rfl, HB4.out.trans (hb5.mono HB4.out.size)⟩
 ·have HZ1 : Hid (Z = codeFault l) := hid (by have := HZ.out; rw [if_pos h0] at this; exact this.symm)
  have HE := hid (errVal_ne h0)
  rw [errVal_ne h0]
  clear h0
  go_wp2_with fail
  go_ret
  rw [HZ1.out, HE.out]
  exact ⟨rfl, HB2.out⟩
theorem body_any (m : MV) (w : World) (hm : m.At w) (hf : FormsAt w) (hsm : SmallM m) :
  Calls Tryz.prog 151 #[.agg m.cells.toArray] w fun e w' => e = .returned (errVal (bodyFault m)) ∧ Below w.heap.size w w' := by
 obtain ⟨nm, ty, st, ab, pr, lo, vc, vh, l, hs⟩ := m
 obtain ⟨hc, hv⟩ := hm
 cases ab with
 | false => exact body_act nm ty st pr lo vc vh l hs w hc hv hf hsm
 | true =>
  obtain ⟨ac, cc, h1⟩ := hc.val
  obtain ⟨ah, ch, h2⟩ := hv.val
  simp only at h1 h2
  subst h1 h2
  have h1 := hsm.len
  have h2 := hsm.hlen
  simp only at h1 h2
  have := body_abs nm ty st pr lo ac l.length cc ah hs.length ch w (by omega) (by omega)
  exact this
theorem cmethod_any (m : MV) (va : Value) (ahead : List MV) (w : World) (hm : m.At w) (ha : Mets w va ahead) (hf : FormsAt w) (hsm : SmallM m) (hn : ahead.length ≤ 1000000000000) :
  Calls Tryz.prog 84 #[.agg m.cells.toArray, va] w fun e w' => e = .returned (errVal (metFault m ahead)) ∧ Below w.heap.size w w' := by
 obtain ⟨nm, ty, st, ab, pr, lo, vc, vh, l, hs⟩ := m
 obtain ⟨Z, hZ⟩ : ∃ Z, metFault ⟨nm, ty, st, ab, pr, lo, vc, vh, l, hs⟩ ahead = Z := ⟨_, rfl⟩
 have HZ : Hid ((if nameOk nm.data.toList = false then 1 else if methodOf ty.data.toList = none then 1 else if twin nm ty ahead = true then 5 else if lo < 0 ∨ 8 < lo then 2 else bodyFault ⟨nm, ty, st, ab, pr, lo, vc, vh, l, hs⟩) = Z) := hid hZ
 have HBD := hid (fun (u : World) (h : Below w.heap.size w u) => body_any ⟨nm, ty, st, ab, pr, lo, vc, vh, l, hs⟩ u (hm.below h) (hf.below h) hsm)
 rw [hZ]
 have hnm : nm.size ≤ 1048576 := hsm.nm
 have hty : ty.size ≤ 1048576 := hsm.ty
 obtain ⟨hc, hv⟩ := hm
 simp only [MV.cells] at hc hv HBD ⊢
 obtain ⟨ac, cc, rfl⟩ := hc.val
 obtain ⟨ah, ch, rfl⟩ := hv.val
 obtain ⟨aa, ca, rfl⟩ := ha.sl.val
 obtain ⟨W0, hW0⟩ : ∃ W0, w.alloc (.cells #[.string nm, .string ty, .bool st, .bool ab, .bool pr, .int .i64 lo, .slice ac l.length cc, .slice ah hs.length ch] 44) = W0 := ⟨_, rfl⟩
 have HBX : Hid (W0.heap[w.heap.size]? = some (.cells #[.string nm, .string ty, .bool st, .bool ab, .bool pr, .int .i64 lo, .slice ac l.length cc, .slice ah hs.length ch] 44)) := hid (by subst hW0; exact heap_alloc_new _ _)
 have HB0 : Hid (Below w.heap.size w W0 ∧ w.heap.size < W0.heap.size) := hid (by subst hW0; exact ⟨ext_alloc _ _, by rw [World.size_alloc]; exact Nat.lt_succ_self _⟩)
 have HMA := hid ha
 have hk0 : W0.cell? ⟨w.heap.size, 0, none⟩ = some (.string nm) := by rw [cell_of_row _ _ _ _ _ _ HBX.out]; rfl
 clear hc hv hf hsm hZ ha
 cases hN : nameOk nm.data.toList with
 | false =>
  have HZ2 : Hid (Z = 1) := hid (by have := HZ.out; rw [if_pos hN] at this; exact this.symm)
  have HN := hid hN
  clear hN
  go_enter Tryz.func84, Tryz.ntmps84
  go_wp2_with fail
  refine (check_any nm _ (by omega)).mono ?_
  intro e w1 h1
  obtain ⟨rfl, hb1⟩ := checked_false h1 HN.out
  clear h1
  go_wp2_with fail
  go_ret
  rw [HZ2.out]
  exact ⟨rfl, HB0.out.1.trans (hb1.mono HB0.out.1.size)⟩
 | true =>
  have HZ2 : Hid ((if methodOf ty.data.toList = none then 1 else if twin nm ty ahead = true then 5 else if lo < 0 ∨ 8 < lo then 2 else bodyFault ⟨nm, ty, st, ab, pr, lo, .slice ac l.length cc, .slice ah hs.length ch, l, hs⟩) = Z) := hid (by have := HZ.out; rw [if_neg (by rw [hN]; decide)] at this; exact this)
  have HN := hid hN
  clear hN HZ
  go_enter Tryz.func84, Tryz.ntmps84
  go_wp2_with fail
  refine (check_any nm _ (by omega)).mono ?_
  intro e w1 h1
  obtain ⟨rfl, hb1⟩ := checked_true h1 HN.out
  clear h1
  have HX1 := hid ((hb1.block _ HB0.out.2).trans HBX.out)
  have HB1 := hid (HB0.out.1.trans (hb1.mono HB0.out.1.size))
  have HL1 := hid (Nat.lt_of_lt_of_le HB0.out.2 hb1.size)
  clear hb1 HBX hW0 hk0
  have hk1 : w1.cell? ⟨w.heap.size, 1, none⟩ = some (.string ty) := by rw [cell_of_row _ _ _ _ _ _ HX1.out]; rfl
  go_wp2_with fail
  clear hk1
  refine (method_any ty _ (by omega)).mono ?_
  intro e w2 h2
  cases hT : methodOf ty.data.toList with
  | none =>
   obtain ⟨rfl, hb2⟩ := methodBy_none hT h2
   have HZ3 : Hid (Z = 1) := hid (by have := HZ2.out; rw [if_pos hT] at this; exact this.symm)
   clear h2 hT
   go_wp2_with fail
   go_ret
   rw [HZ3.out]
   exact ⟨rfl, HB1.out.trans (hb2.mono HB1.out.size)⟩
  | some r =>
   obtain ⟨ts, g⟩ := r
   obtain ⟨v, rfl, ho⟩ := methodBy_some hT h2
   have HZ3 : Hid ((if twin nm ty ahead = true then 5 else if lo < 0 ∨ 8 < lo then 2 else bodyFault ⟨nm, ty, st, ab, pr, lo, .slice ac l.length cc, .slice ah hs.length ch, l, hs⟩) = Z) := hid (by have := HZ2.out; rw [if_neg (by rw [hT]; exact fun h => by cases h)] at this; exact this)
   have HX2 := hid ((ho.below.block _ HL1.out).trans HX1.out)
   have HB2 := hid (HB1.out.trans (ho.below.mono HB1.out.size))
   have HL2 := hid (Nat.lt_of_lt_of_le HL1.out ho.below.size)
   obtain ⟨av, cv, rfl⟩ := ho.sl.val
   have HCT := hid (containsM_any (.slice aa ahead.length ca) ahead nm ty w.heap.size w2 (HMA.out.below HB2.out) (by rw [cell_of_row _ _ _ _ _ _ HX2.out]; rfl) (by rw [cell_of_row _ _ _ _ _ _ HX2.out]; rfl) hn)
   clear h2 hT ho
   go_wp2_with fail
   refine HCT.out.mono ?_
   rintro e w3 ⟨rfl, hb3⟩
   have HX3 := hid ((hb3.block _ HL2.out).trans HX2.out)
   have HB3 := hid (HB2.out.trans (hb3.mono HB2.out.size))
   have HL3 := hid (Nat.lt_of_lt_of_le HL2.out hb3.size)
   clear hb3
   cases hW : twin nm ty ahead with
   | true =>
    have HZ4 : Hid (Z = 5) := hid (by have := HZ3.out; rw [if_pos hW] at this; exact this.symm)
    clear hW
    go_wp2_with fail
    go_ret
    rw [HZ4.out]
    exact ⟨rfl, HB3.out⟩
   | false =>
    have HZ4 : Hid ((if lo < 0 ∨ 8 < lo then 2 else bodyFault ⟨nm, ty, st, ab, pr, lo, .slice ac l.length cc, .slice ah hs.length ch, l, hs⟩) = Z) := hid (by have := HZ3.out; rw [if_neg (by rw [hW]; decide)] at this; exact this)
    clear hW
    have hk5 : w3.cell? ⟨w.heap.size, 5, none⟩ = some (.int .i64 lo) := by rw [cell_of_row _ _ _ _ _ _ HX3.out]; rfl
    by_cases h0 : lo < 0
    ·have HZ5 : Hid (Z = 2) := hid (by have := HZ4.out; rw [if_pos (.inl h0)] at this; exact this.symm)
     go_wp2_with fail
     go_ret
     rw [HZ5.out]
     exact ⟨rfl, HB3.out⟩
    ·by_cases h8 : 8 < lo
     ·have HZ5 : Hid (Z = 2) := hid (by have := HZ4.out; rw [if_pos (.inr h8)] at this; exact this.symm)
      go_wp2_with fail
      go_ret
      rw [HZ5.out]
      exact ⟨rfl, HB3.out⟩
     ·have HZ5 : Hid (bodyFault ⟨nm, ty, st, ab, pr, lo, .slice ac l.length cc, .slice ah hs.length ch, l, hs⟩ = Z) := hid (by have := HZ4.out; rw [if_neg (by omega)] at this; exact this)
      have HBD3 := hid (HBD.out w3 HB3.out)
      go_wp2_with (refine wpList_load_row rfl 44 (.tmp 2) rfl w.heap.size rfl _ _ _ _ HX3.out Tryz.underlying44 rfl (by kernel_rfl) ?_)
      refine HBD3.out.mono ?_
      rintro e w5 ⟨rfl, hb5⟩
      go_wp2_with fail
      go_ret
      rw [HZ5.out]
      exact ⟨rfl, HB3.out.trans (hb5.mono HB3.out.size)⟩
theorem text_at {w : World} {a : Option Addr} {n c : Nat} {l : List ByteArray} (h : Sl w (.slice a n c) l.length 1 (l.map .string)) {k : Nat} (hk : k < l.length) :
  ∃ b off, a = some ⟨b, off, none⟩ ∧ w.cell? ⟨b, off + k, none⟩ = some (.string l[k]) := by
 obtain ⟨_, a', c', he, _, h⟩ := h
 simp only [Value.slice.injEq] at he
 obtain ⟨rfl, _, _⟩ := he
 rcases h with h | ⟨b, off, rfl, h⟩
 ·have : l = [] := by simpa using h
  subst this; simp at hk
 ·exact ⟨b, off, rfl, h k _ (by rw [List.getElem?_map, List.getElem?_eq_getElem hk]; rfl)⟩
theorem hasText_any (a : Option Addr) (n c : Nat) (l : List ByteArray) (s : ByteArray) (w : World) (ha : Sl w (.slice a n c) n 1 (l.map .string)) (hn : n ≤ 1000000000000) :
  Calls Tryz.prog 23 #[.slice a n c, .string s] w fun e w' => e = .returned (.bool (inTexts s l)) ∧ w = w' := by
 have hl : l.length = n := by have := ha.1; simpa using this
 subst hl
 by_cases h0 : 0 < l.length
 ·obtain ⟨b, off, rfl, _⟩ := text_at ha h0
  refine (Tryz.slices_Contains_string b off l.length c l s w (Nat.le_refl _) (by omega) (fun j hj => ?_)).mono ?_
  ·obtain ⟨b2, off2, h1, h2⟩ := text_at ha hj
   simp only [Option.some.injEq, Addr.mk.injEq] at h1
   obtain ⟨rfl, rfl, _⟩ := h1
   rw [h2]; simp [List.getD, hj]
  ·rintro e w' ⟨rfl, rfl⟩
   refine ⟨?_, rfl⟩
   rw [List.take_length]
   have : Lib.containsS l s = inTexts s l := by
    rw [Bool.eq_iff_iff, Lib.containsS_iff, inT_mem]
   rw [this]
 ·have : l = [] := List.eq_nil_of_length_eq_zero (by omega)
  subst this
  refine (Tryz.slices_Contains_string_empty a c s w).mono ?_
  rintro e w' ⟨rfl, rfl⟩
  exact ⟨rfl, rfl⟩
theorem face1 {x : ByteArray} {l : List ByteArray} (h : nameOk x.data.toList = false) : faceFault x l = 1 := by unfold faceFault; rw [if_pos h]
theorem face5 {x : ByteArray} {l : List ByteArray} (h : nameOk x.data.toList = true) (h2 : inTexts x l = true) : faceFault x l = 5 := by unfold faceFault; rw [if_neg (by rw [h]; decide), if_pos h2]
theorem face0 {x : ByteArray} {l : List ByteArray} (h : nameOk x.data.toList = true) (h2 : inTexts x l = false) : faceFault x l = 0 := by unfold faceFault; rw [if_neg (by rw [h]; decide), if_neg (by rw [h2]; decide)]
theorem field1 {x : Fd} {l : List Fd} (h : nameOk x.nm.data.toList = false) : fieldFault x l = 1 := by unfold fieldFault; rw [if_pos h]
theorem field1t {x : Fd} {l : List Fd} (h : nameOk x.nm.data.toList = true) (h2 : isTy x.ty.data.toList = false) : fieldFault x l = 1 := by unfold fieldFault; rw [if_neg (by rw [h]; decide), if_pos h2]
theorem field5 {x : Fd} {l : List Fd} (h : nameOk x.nm.data.toList = true) (h2 : isTy x.ty.data.toList = true) (h3 : inFds x.nm l = true) : fieldFault x l = 5 := by unfold fieldFault; rw [if_neg (by rw [h]; decide), if_neg (by rw [h2]; decide), if_pos h3]
theorem field0 {x : Fd} {l : List Fd} (h : nameOk x.nm.data.toList = true) (h2 : isTy x.ty.data.toList = true) (h3 : inFds x.nm l = false) : fieldFault x l = 0 := by unfold fieldFault; rw [if_neg (by rw [h]; decide), if_neg (by rw [h2]; decide), if_neg (by rw [h3]; decide)]
theorem fds_take {l : List Fd} {k : Nat} : (l.flatMap Fd.cells).take (k * 2) = (l.take k).flatMap Fd.cells := by
 induction l generalizing k with
 | nil => simp
 | cons x l ih =>
  cases k with
  | zero => simp
  | succ k =>
   rw [List.take_succ_cons, List.flatMap_cons, List.flatMap_cons, ← ih, show (k + 1) * 2 = (Fd.cells x).length + k * 2 from by show _ = 2 + _; omega, List.take_length_add_append]
theorem mets_take {l : List MV} {k : Nat} : (l.flatMap MV.cells).take (k * 8) = (l.take k).flatMap MV.cells := by
 induction l generalizing k with
 | nil => simp
 | cons x l ih =>
  cases k with
  | zero => simp
  | succ k =>
   rw [List.take_succ_cons, List.flatMap_cons, List.flatMap_cons, ← ih, show (k + 1) * 8 = (MV.cells x).length + k * 8 from by show _ = 8 + _; omega, List.take_length_add_append]
theorem Fds.part {w : World} {a : Option Addr} {c : Nat} {l : List Fd} (h : Fds w (.slice a l.length c) l) {k : Nat} (hk : k ≤ l.length) : Fds w (.slice a k c) (l.take k) := by
 have := Sl.take h k hk
 rw [fds_take] at this
 unfold Fds
 rw [List.length_take, Nat.min_eq_left hk]; exact this
theorem Mets.part {w : World} {a : Option Addr} {c : Nat} {l : List MV} (h : Mets w (.slice a l.length c) l) {k : Nat} (hk : k ≤ l.length) : Mets w (.slice a k c) (l.take k) := by
 refine ⟨?_, fun m hm => h.at_ m (List.mem_of_mem_take hm)⟩
 have := Sl.take h.sl k hk
 rw [mets_take] at this
 rw [List.length_take, Nat.min_eq_left hk]; exact this
theorem ccheck_any (c : CV) (w : World) (hc : c.At w) (hf : FormsAt w) (hsm : SmallC c) :
  Calls Tryz.prog 45 #[.agg c.cells.toArray] w fun e w' => e = .returned (errVal (clsFault c)) ∧ Below w.heap.size w w' := by
 obtain ⟨nm, sup, vf, face, vd, vm, faces, fields, mets⟩ := c
 obtain ⟨Z, hZ⟩ : ∃ Z, clsFault ⟨nm, sup, vf, face, vd, vm, faces, fields, mets⟩ = Z := ⟨_, rfl⟩
 obtain ⟨HD, hHD⟩ : ∃ HD, headBad ⟨nm, sup, vf, face, vd, vm, faces, fields, mets⟩ = HD := ⟨_, rfl⟩
 obtain ⟨FB, hFB⟩ : ∃ FB, firstBad faceFault [] faces = FB := ⟨_, rfl⟩
 obtain ⟨DB, hDB⟩ : ∃ DB, firstBad fieldFault [] fields = DB := ⟨_, rfl⟩
 obtain ⟨MB, hMB⟩ : ∃ MB, firstBad metFault [] mets = MB := ⟨_, rfl⟩
 obtain ⟨BG, hBG⟩ : ∃ BG, decide (8 < faces.length ∨ 8 < fields.length ∨ 8 < mets.length) = BG := ⟨_, rfl⟩
 have HZ : Hid ((if HD = true then 1 else if FB ≠ 0 then FB else if BG = true then 4 else if DB ≠ 0 then DB else if MB ≠ 0 then MB else if face = true ∧ 0 < fields.length then 8 else 0) = Z) := hid (by
  rw [← hZ, ← hHD, ← hFB, ← hBG, ← hDB, ← hMB]; unfold clsFault; simp only [decide_eq_true_eq])
 rw [hZ]
 have HHD := hid hHD
 have HFB := hid hFB
 have HDB := hid hDB
 have HMB := hid hMB
 have HBG := hid hBG
 have hnm : nm.size ≤ 1048576 := hsm.nm
 have hsup : sup.size ≤ 1048576 := hsm.sup
 have hl1 : faces.length ≤ 1048576 := hsm.flen
 have hl2 : fields.length ≤ 1048576 := hsm.dlen
 have hl3 : mets.length ≤ 1048576 := hsm.mlen
 obtain ⟨h1, h2, h3⟩ := hc
 simp only [CV.cells] at h1 h2 h3 ⊢
 obtain ⟨af, cf, rfl⟩ := h1.val
 obtain ⟨ad, cd, rfl⟩ := h2.val
 obtain ⟨am, cm, rfl⟩ := h3.sl.val
 obtain ⟨W0, hW0⟩ : ∃ W0, w.alloc (.cells #[.string nm, .string sup, .slice af faces.length cf, .bool face, .slice ad fields.length cd, .slice am mets.length cm] 28) = W0 := ⟨_, rfl⟩
 have HBX : Hid (W0.heap[w.heap.size]? = some (.cells #[.string nm, .string sup, .slice af faces.length cf, .bool face, .slice ad fields.length cd, .slice am mets.length cm] 28)) := hid (by subst hW0; exact heap_alloc_new _ _)
 have HB0 : Hid (Below w.heap.size w W0 ∧ w.heap.size < W0.heap.size) := hid (by subst hW0; exact ⟨ext_alloc _ _, by rw [World.size_alloc]; exact Nat.lt_succ_self _⟩)
 have H1 := hid h1
 have H2 := hid h2
 have H3 := hid h3
 have HF := hid hf
 have HSM := hid hsm
 have HSM2 := hid hsm.fields
 have HSM3 := hid hsm.mets
 have hcf : faces.length ≤ cf := h1.cap.2
 have hcd : fields.length ≤ cd := h2.cap.2
 have hcm : mets.length ≤ cm := h3.sl.cap.2
 clear h1 h2 h3 hf hsm hZ hHD hFB hDB hMB hBG
 go_enter Tryz.func45, Tryz.ntmps45
 go_upto_region 1 with (fail)
 go_cut [24] (fun s wx => s = .bool HD ∧ Hid (Below W0.heap.size W0 wx))
 case first =>
  have hk0 : W0.cell? ⟨w.heap.size, 0, none⟩ = some (.string nm) := by rw [cell_of_row _ _ _ _ _ _ HBX.out]; rfl
  cases hN : nameOk nm.data.toList with
  | false =>
   have HD1 : Hid (HD = true) := hid (by rw [← HHD.out]; unfold headBad; rw [if_pos hN])
   have HN := hid hN
   clear hN
   go_wp2_with fail
   refine (check_any nm _ (by omega)).mono ?_
   intro e w1 h1
   obtain ⟨rfl, hb1⟩ := checked_false h1 HN.out
   clear h1
   go_wp2_with fail
   go_meet
   exact ⟨by rw [HD1.out], hid hb1⟩
  | true =>
   have HN := hid hN
   by_cases hs : sup.data.toList = []
   ·have HD1 : Hid (HD = false) := hid (by rw [← HHD.out]; unfold headBad; rw [if_neg (by rw [hN]; decide), if_pos hs])
    have e1 : sup.toList.isEmpty = true := by rw [ByteArray.toList_eq, hs]; rfl
    have e2 : sup.toList = [] := by rw [ByteArray.toList_eq, hs]
    clear hN hs
    go_wp2_with fail
    refine (check_any nm _ (by omega)).mono ?_
    intro e w1 h1
    obtain ⟨rfl, hb1⟩ := checked_true h1 HN.out
    clear h1
    have hk1 : w1.cell? ⟨w.heap.size, 1, none⟩ = some (.string sup) := by rw [cell_of_row _ _ _ _ _ _ ((hb1.block _ HB0.out.2).trans HBX.out)]; rfl
    go_wp2_with fail
    go_meet
    exact ⟨by rw [HD1.out], hid hb1⟩
   ·have HD1 : Hid (HD = !nameOk sup.data.toList) := hid (by rw [← HHD.out]; unfold headBad; rw [if_neg (by rw [hN]; decide), if_neg hs])
    have e1 : sup.toList.isEmpty = false := by
     rw [ByteArray.toList_eq]
     cases h : sup.data.toList with
     | nil => exact absurd h hs
     | cons a b => rfl
    have e2 : ¬ sup.toList = [] := by rw [ByteArray.toList_eq]; exact hs
    have e3 : (!sup.toList.isEmpty) = true := by rw [e1]; rfl
    clear hN hs
    go_wp2_with fail
    refine (check_any nm _ (by omega)).mono ?_
    intro e w1 h1
    obtain ⟨rfl, hb1⟩ := checked_true h1 HN.out
    clear h1
    have HB1 := hid hb1
    have hk1 : w1.cell? ⟨w.heap.size, 1, none⟩ = some (.string sup) := by rw [cell_of_row _ _ _ _ _ _ ((hb1.block _ HB0.out.2).trans HBX.out)]; rfl
    clear hb1
    go_wp2_with fail
    refine (check_any sup _ (by omega)).mono ?_
    intro e w2 h2
    cases hS : nameOk sup.data.toList with
    | false =>
     obtain ⟨rfl, hb2⟩ := checked_false h2 hS
     have HD2 : Hid (HD = true) := hid (by rw [HD1.out, hS]; rfl)
     have HB2 := hid (HB1.out.trans (hb2.mono HB1.out.size))
     clear h2 hS hb2
     go_wp2_with fail
     go_meet
     exact ⟨by rw [HD2.out], HB2⟩
    | true =>
     obtain ⟨rfl, hb2⟩ := checked_true h2 hS
     have HD2 : Hid (HD = false) := hid (by rw [HD1.out, hS]; rfl)
     have HB2 := hid (HB1.out.trans (hb2.mono HB1.out.size))
     clear h2 hS hb2
     go_wp2_with fail
     go_meet
     exact ⟨by rw [HD2.out], HB2⟩
 case rest =>
  obtain ⟨rfl, HBc⟩ := hcut
  have HXc := hid ((HBc.out.block _ HB0.out.2).trans HBX.out)
  have HB1 := hid (HB0.out.1.trans (HBc.out.mono HB0.out.1.size))
  have HL1 := hid (Nat.lt_of_lt_of_le HB0.out.2 HBc.out.size)
  cases HD with
  | true =>
   have HZ1 : Hid (Z = 1) := hid (by have := HZ.out; rw [if_pos rfl] at this; exact this.symm)
   go_wp2_with fail
   go_ret
   rw [HZ1.out]
   exact ⟨rfl, HB1.out⟩
  | false =>
   have HZ1 : Hid ((if FB ≠ 0 then FB else if BG = true then 4 else if DB ≠ 0 then DB else if MB ≠ 0 then MB else if face = true ∧ 0 < fields.length then 8 else 0) = Z) := hid (by have := HZ.out; rw [if_neg (by decide)] at this; exact this)
   have hk2 : wc.cell? ⟨w.heap.size, 2, none⟩ = some (.slice af faces.length cf) := by rw [cell_of_row _ _ _ _ _ _ HXc.out]; rfl
   go_wp2_with fail
   clear hk2 HZ HHD HBX HBc hW0
   go_loopw [29] (fun i wr => ∃ k : Nat, k ≤ faces.length ∧ i = .int .i64 k ∧ Hid (Below wc.heap.size wc wr) ∧ Hid (FB = firstBad faceFault (faces.take k) (faces.drop k))) (fun i _ => faces.length - (intOf i).toNat)
   case atStart => exact ⟨0, Nat.zero_le _, rfl, hid (Below.refl _ _), hid HFB.out.symm⟩
   case round =>
    obtain ⟨k, hk, rfl, HR, HP⟩ := hrel
    have HBR := hid (HB1.out.trans (HR.out.mono HB1.out.size))
    have HXR := hid ((HR.out.block _ HL1.out).trans HXc.out)
    have HLR := hid (Nat.lt_of_lt_of_le HL1.out HR.out.size)
    by_cases hlt : k < faces.length
    ·have HSL := hid (H1.out.below HBR.out)
     obtain ⟨b, off, hab, hc0⟩ := text_at HSL.out hlt
     subst hab
     have hi : (0 : Int) ≤ (k : Int) := by omega
     have hkl : (k : Int) < (faces.length : Int) := by omega
     have hkc : (k : Int) ≤ (cf : Int) := by omega
     have hsz := HSM.out.faces _ (List.getElem_mem hlt)
     have HT := hid (HSL.out.take k (by omega))
     rw [Nat.mul_one, ← List.map_take] at HT
     have HOK := hid (fun h => HP.out.trans (fb_ok (f := faceFault) hlt h))
     have HNO := hid (fun h => HP.out.trans (fb_no (f := faceFault) hlt h))
     have htl : (faces.take k).length = k := by rw [List.length_take]; omega
     have HTL := hid htl
     clear htl
     generalize faces[k] = x at hc0 hsz HOK HNO
     cases hN : nameOk x.data.toList with
     | false =>
      have HZ2 : Hid (Z = 1) := hid (by
       have h1 := HNO.out (by rw [face1 hN]; decide)
       rw [face1 hN] at h1
       have := HZ1.out; rw [h1, if_pos (by decide)] at this; exact this.symm)
      have HN := hid hN
      clear hN
      go_wp2_with fail
      refine (check_any x _ (by omega)).mono ?_
      intro e w1 h1
      obtain ⟨rfl, hb1⟩ := checked_false h1 HN.out
      clear h1
      go_wp2_with fail
      go_ret
      rw [HZ2.out]
      exact ⟨rfl, HBR.out.trans (hb1.mono HBR.out.size)⟩
     | true =>
      have HN := hid hN
      clear hN
      go_wp2_with fail
      refine (check_any x _ (by omega)).mono ?_
      intro e w1 h1
      obtain ⟨rfl, hb1⟩ := checked_true h1 HN.out
      clear h1
      have HR1 := hid (HR.out.trans (hb1.mono HR.out.size))
      have HBR1 := hid (HBR.out.trans (hb1.mono HBR.out.size))
      have hk2 : w1.cell? ⟨w.heap.size, 2, none⟩ = some (.slice (some ⟨b, off, none⟩) faces.length cf) := by rw [cell_of_row _ _ _ _ _ _ ((HR1.out.block _ HL1.out).trans HXc.out)]; rfl
      have HCT := hid (hasText_any (some ⟨b, off, none⟩) k cf (faces.take k) x w1 (HT.out.below hb1) (by omega))
      clear hb1
      go_wp2_with fail
      refine HCT.out.mono ?_
      rintro e w2 ⟨rfl, rfl⟩
      cases hW : inTexts x (faces.take k) with
      | true =>
       have HZ2 : Hid (Z = 5) := hid (by
        have h1 := HNO.out (by rw [face5 HN.out hW]; decide)
        rw [face5 HN.out hW] at h1
        have := HZ1.out; rw [h1, if_pos (by decide)] at this; exact this.symm)
       clear hW
       go_wp2_with fail
       go_ret
       rw [HZ2.out]
       exact ⟨rfl, HBR1.out⟩
      | false =>
       have HP2 := hid (HOK.out (face0 HN.out hW))
       clear hW
       go_wp2_with fail
       go_roundw
       case rel => exact ⟨k + 1, by omega, by go_num, HR1, HP2⟩
       case measure => simp [intOf]; omega
    ·have HZ2 : Hid ((if BG = true then 4 else if DB ≠ 0 then DB else if MB ≠ 0 then MB else if face = true ∧ 0 < fields.length then 8 else 0) = Z) := hid (by
      have h1 := HP.out.trans (fb_end hlt)
      have := HZ1.out; rw [if_neg (by rw [h1]; decide)] at this; exact this)
     have HLT := hid hlt
     clear hk HP hlt HZ1 HFB HSM
     have hk2 : wr.cell? ⟨w.heap.size, 2, none⟩ = some (.slice af faces.length cf) := by rw [cell_of_row _ _ _ _ _ _ HXR.out]; rfl
     have hk4 : wr.cell? ⟨w.heap.size, 4, none⟩ = some (.slice ad fields.length cd) := by rw [cell_of_row _ _ _ _ _ _ HXR.out]; rfl
     have hk5 : wr.cell? ⟨w.heap.size, 5, none⟩ = some (.slice am mets.length cm) := by rw [cell_of_row _ _ _ _ _ _ HXR.out]; rfl
     go_upto_region 11 with (fail)
     go_cut [56] (fun s wx => s = .bool BG ∧ wx = wr)
     case first =>
      go_wp2_with fail
      all_goals
       go_meet
       refine ⟨congrArg Value.bool ?_, rfl⟩
       rw [← HBG.out]
       simp only [decide_eq_decide]
       (repeat' split) <;> omega
     case rest =>
      obtain ⟨rfl, hwx⟩ := hcut
      obtain rfl := hwx.symm
      clear hk2
      cases BG with
      | true =>
       have HZ3 : Hid (Z = 4) := hid (by have := HZ2.out; rw [if_pos rfl] at this; exact this.symm)
       go_wp2_with fail
       go_ret
       rw [HZ3.out]
       exact ⟨rfl, HBR.out⟩
      | false =>
       have HZ3 : Hid ((if DB ≠ 0 then DB else if MB ≠ 0 then MB else if face = true ∧ 0 < fields.length then 8 else 0) = Z) := hid (by have := HZ2.out; rw [if_neg (show ¬ (false = true) from by decide)] at this; exact this)
       go_wp2_with fail
       clear hk4 hk5 HZ2
       obtain ⟨W2, hW2⟩ : ∃ W2, W2 = wr := ⟨_, rfl⟩
       subst hW2
       go_loopw [61] (fun i wr => ∃ k : Nat, k ≤ fields.length ∧ i = .int .i64 k ∧ Hid (Below W2.heap.size W2 wr) ∧ Hid (DB = firstBad fieldFault (fields.take k) (fields.drop k))) (fun i _ => fields.length - (intOf i).toNat)
       case atStart => exact ⟨0, Nat.zero_le _, rfl, hid (Below.refl _ _), hid HDB.out.symm⟩
       case round =>
        obtain ⟨k2, hk2, rfl, HR2, HP2⟩ := hrel
        have HBR2 := hid (HBR.out.trans (HR2.out.mono HBR.out.size))
        have HXR2 := hid ((HR2.out.block _ HLR.out).trans HXR.out)
        have HLR2 := hid (Nat.lt_of_lt_of_le HLR.out HR2.out.size)
        by_cases hlt : k2 < fields.length
        ·have HSL := hid (H2.out.below HBR2.out)
         obtain ⟨b, off, hab, hc0, hc1⟩ := fd_at HSL.out hlt
         subst hab
         have hi : (0 : Int) ≤ (k2 : Int) := by omega
         have hkl : (k2 : Int) < (fields.length : Int) := by omega
         have hkc : (k2 : Int) ≤ (cd : Int) := by omega
         have hsz := HSM2.out _ (List.getElem_mem hlt)
         have HT := hid (Fds.part HSL.out (k := k2) (by omega))
         have HOK := hid (fun h => HP2.out.trans (fb_ok (f := fieldFault) hlt h))
         have HNO := hid (fun h => HP2.out.trans (fb_no (f := fieldFault) hlt h))
         have HTL : Hid ((fields.take k2).length = k2) := hid (by rw [List.length_take]; omega)
         generalize fields[k2] = x at hc0 hc1 hsz HOK HNO
         obtain ⟨fn, ft⟩ := x
         simp only at hc0 hc1 hsz
         obtain ⟨hz1, hz2⟩ := hsz
         obtain ⟨W3, hW3⟩ : ∃ W3, wr.alloc (.cells #[.string fn, .string ft] 153) = W3 := ⟨_, rfl⟩
         have HE : Hid (Below wr.heap.size wr W3 ∧ W3.heap[wr.heap.size]? = some (.cells #[.string fn, .string ft] 153) ∧ wr.heap.size < W3.heap.size) := hid (by subst hW3; exact ⟨ext_alloc _ _, heap_alloc_new _ _, by rw [World.size_alloc]; exact Nat.lt_succ_self _⟩)
         have HR3 := hid (HR2.out.trans (HE.out.1.mono HR2.out.size))
         have HB3 := hid (HBR2.out.trans (HE.out.1.mono HBR2.out.size))
         have hf0 : W3.cell? ⟨wr.heap.size, 0, none⟩ = some (.string fn) := by rw [cell_of_row _ _ _ _ _ _ HE.out.2.1]; rfl
         cases hN : nameOk fn.data.toList with
         | false =>
          have HZ4 : Hid (Z = 1) := hid (by
           have h1 := HNO.out (by rw [field1 hN]; decide)
           rw [field1 hN] at h1
           have := HZ3.out; rw [h1, if_pos (by decide)] at this; exact this.symm)
          have HN := hid hN
          clear hN
          go_wp2_with fail
          refine (check_any fn _ (by omega)).mono ?_
          intro e w1 h1
          obtain ⟨rfl, hb1⟩ := checked_false h1 HN.out
          clear h1
          go_wp2_with fail
          go_ret
          rw [HZ4.out]
          exact ⟨rfl, HB3.out.trans (hb1.mono HB3.out.size)⟩
         | true =>
          have HN := hid hN
          clear hN
          go_wp2_with fail
          refine (check_any fn _ (by omega)).mono ?_
          intro e w1 h1
          obtain ⟨rfl, hb1⟩ := checked_true h1 HN.out
          clear h1 hf0 hW3
          have HB4 := hid (HB3.out.trans (hb1.mono HB3.out.size))
          have HR4 := hid (HR3.out.trans (hb1.mono HR3.out.size))
          have HF4 := hid ((hb1.block _ HE.out.2.2).trans HE.out.2.1)
          have HL4 := hid (Nat.lt_of_lt_of_le HE.out.2.2 hb1.size)
          have HG4 := hid (HE.out.1.trans (hb1.mono HE.out.1.size))
          have hf1 : w1.cell? ⟨wr.heap.size, 1, none⟩ = some (.string ft) := by rw [cell_of_row _ _ _ _ _ _ HF4.out]; rfl
          clear hb1
          go_wp2_with fail
          refine (tcheck_any ft _ (by omega)).mono ?_
          intro e w2 h2
          clear hf1
          cases hT : isTy ft.data.toList with
          | false =>
           obtain ⟨rfl, hb2⟩ := checked_false h2 hT
           have HZ4 : Hid (Z = 1) := hid (by
            have h1 := HNO.out (by rw [field1t HN.out hT]; decide)
            rw [field1t HN.out hT] at h1
            have := HZ3.out; rw [h1, if_pos (by decide)] at this; exact this.symm)
           clear h2 hT
           go_wp2_with fail
           go_ret
           rw [HZ4.out]
           exact ⟨rfl, HB4.out.trans (hb2.mono HB4.out.size)⟩
          | true =>
           obtain ⟨rfl, hb2⟩ := checked_true h2 hT
           have HTY := hid hT
           have HB5 := hid (HB4.out.trans (hb2.mono HB4.out.size))
           have HR5 := hid (HR4.out.trans (hb2.mono HR4.out.size))
           have HF5 := hid ((hb2.block _ HL4.out).trans HF4.out)
           have HG5 := hid (HG4.out.trans (hb2.mono HG4.out.size))
           have HX5 := hid ((HR5.out.block _ HLR.out).trans HXR.out)
           have hk4 : w2.cell? ⟨w.heap.size, 4, none⟩ = some (.slice (some ⟨b, off, none⟩) fields.length cd) := by rw [cell_of_row _ _ _ _ _ _ HX5.out]; rfl
           have HCT := hid (containsF_any (.slice (some ⟨b, off, none⟩) k2 cd) (fields.take k2) fn wr.heap.size w2 (HT.out.below HG5.out) (by rw [cell_of_row _ _ _ _ _ _ HF5.out]; rfl) (by have := HTL.out; omega))
           clear h2 hT hb2
           go_wp2_with fail
           refine HCT.out.mono ?_
           rintro e w3 ⟨rfl, hb3⟩
           have HB6 := hid (HB5.out.trans (hb3.mono HB5.out.size))
           have HR6 := hid (HR5.out.trans (hb3.mono HR5.out.size))
           clear hb3 hk4
           cases hW : inFds fn (fields.take k2) with
           | true =>
            have HZ4 : Hid (Z = 5) := hid (by
             have h1 := HNO.out (by rw [field5 HN.out HTY.out hW]; decide)
             rw [field5 HN.out HTY.out hW] at h1
             have := HZ3.out; rw [h1, if_pos (by decide)] at this; exact this.symm)
            clear hW
            go_wp2_with fail
            go_ret
            rw [HZ4.out]
            exact ⟨rfl, HB6.out⟩
           | false =>
            have HP3 := hid (HOK.out (field0 HN.out HTY.out hW))
            clear hW
            go_wp2_with fail
            go_roundw
            case rel => exact ⟨k2 + 1, by omega, by go_num, HR6, HP3⟩
            case measure => simp [intOf]; omega
        ·have HZ4 : Hid ((if MB ≠ 0 then MB else if face = true ∧ 0 < fields.length then 8 else 0) = Z) := hid (by
          have h1 := HP2.out.trans (fb_end hlt)
          have := HZ3.out; rw [if_neg (by rw [h1]; decide)] at this; exact this)
         have hge2 : ¬ (k2 : Int) < (fields.length : Int) := by omega
         have hk5 : wr.cell? ⟨w.heap.size, 5, none⟩ = some (.slice am mets.length cm) := by rw [cell_of_row _ _ _ _ _ _ HXR2.out]; rfl
         clear hlt HP2 HZ3 HDB HSM2
         go_wp2_with fail
         clear hk5 hge2
         obtain ⟨W4, hW4⟩ : ∃ W4, W4 = wr := ⟨_, rfl⟩
         subst hW4
         go_loopw [88] (fun i wr => ∃ k : Nat, k ≤ mets.length ∧ i = .int .i64 k ∧ Hid (Below W4.heap.size W4 wr) ∧ Hid (MB = firstBad metFault (mets.take k) (mets.drop k))) (fun i _ => mets.length - (intOf i).toNat)
         case atStart => exact ⟨0, Nat.zero_le _, rfl, hid (Below.refl _ _), hid HMB.out.symm⟩
         case round =>
          obtain ⟨k3, hk3, rfl, HR3, HP3⟩ := hrel
          have HBR3 := hid (HBR2.out.trans (HR3.out.mono HBR2.out.size))
          have HXR3 := hid ((HR3.out.block _ HLR2.out).trans HXR2.out)
          have HLR3 := hid (Nat.lt_of_lt_of_le HLR2.out HR3.out.size)
          by_cases hlt : k3 < mets.length
          ·have HSL := hid (H3.out.below HBR3.out)
           obtain ⟨b, off, hab, hd0, hd1, hd2, hd3, hd4, hd5, hd6, hd7⟩ := met_at HSL.out hlt
           subst hab
           have hi : (0 : Int) ≤ (k3 : Int) := by omega
           have hkl : (k3 : Int) < (mets.length : Int) := by omega
           have hkc : (k3 : Int) ≤ (cm : Int) := by omega
           have HMS := hid (HSM3.out _ (List.getElem_mem hlt))
           have HAT := hid (HSL.out.at_ _ (List.getElem_mem hlt))
           have HT := hid (Mets.part HSL.out (k := k3) (by omega))
           have HOK := hid (fun h => HP3.out.trans (fb_ok (f := metFault) hlt h))
           have HNO := hid (fun h => HP3.out.trans (fb_no (f := metFault) hlt h))
           have HTL : Hid ((mets.take k3).length = k3) := hid (by rw [List.length_take]; omega)
           generalize mets[k3] = x at hd0 hd1 hd2 hd3 hd4 hd5 hd6 hd7 HMS HAT HOK HNO
           have HCM := hid (fun (u : World) (h : Below wr.heap.size wr u) => cmethod_any x (.slice (some ⟨b, off, none⟩) k3 cm) (mets.take k3) u (HAT.out.below h) (HT.out.below h) (HF.out.below (HBR3.out.trans (h.mono HBR3.out.size))) HMS.out (by have := HTL.out; omega))
           obtain ⟨mn, mt, st, ab, pr, lo, vc, vh, code, hs⟩ := x
           simp only [MV.cells] at hd0 hd1 hd2 hd3 hd4 hd5 hd6 hd7 HCM
           obtain ⟨ac, cc, hvc⟩ := HAT.out.code.val
           obtain ⟨ah, ch, hvh⟩ := HAT.out.hs.val
           simp only at hvc hvh
           subst hvc hvh
           obtain ⟨W5, hW5⟩ : ∃ W5, wr.alloc (.cells #[.string mn, .string mt, .bool st, .bool ab, .bool pr, .int .i64 lo, .slice ac code.length cc, .slice ah hs.length ch] 44) = W5 := ⟨_, rfl⟩
           have HE : Hid (Below wr.heap.size wr W5 ∧ W5.heap[wr.heap.size]? = some (.cells #[.string mn, .string mt, .bool st, .bool ab, .bool pr, .int .i64 lo, .slice ac code.length cc, .slice ah hs.length ch] 44) ∧ wr.heap.size < W5.heap.size) := hid (by subst hW5; exact ⟨ext_alloc _ _, heap_alloc_new _ _, by rw [World.size_alloc]; exact Nat.lt_succ_self _⟩)
           have HR5 := hid (HR3.out.trans (HE.out.1.mono HR3.out.size))
           have HB5 := hid (HBR3.out.trans (HE.out.1.mono HBR3.out.size))
           have HX5 := hid ((HR5.out.block _ HLR2.out).trans HXR2.out)
           have HL5 := hid (Nat.lt_of_lt_of_le HLR2.out HR5.out.size)
           obtain ⟨F, hF⟩ : ∃ F, metFault ⟨mn, mt, st, ab, pr, lo, .slice ac code.length cc, .slice ah hs.length ch, code, hs⟩ (mets.take k3) = F := ⟨_, rfl⟩
           have HFF := hid hF
           rw [hF] at HCM
           clear hF
           go_wp2_with fail
           refine wp_region_ext [(5, is (errVal F))] ⟨is_stays _, trivial⟩ (by kernel_rfl) (by kernel_rfl) ?_
           refine wpG_row 1 rfl rfl rfl 44 _ rfl wr.heap.size rfl _ _ _ _ Tryz.underlying44 rfl (by kernel_rfl) (fun u hu => (hu.block _ HE.out.2.2).trans HE.out.2.1) ?_
           go_frame
           refine zgc 2 ?_
           go_frame
           refine wpG_read 3 rfl rfl (.slice (some ⟨b, off, none⟩) mets.length cm) rfl ?_ ?_
           ·intro u hu hh
            have hrow := (hu.block _ HL5.out).trans HX5.out
            have hk5 : u.cell? ⟨w.heap.size, 5, none⟩ = some (.slice (some ⟨b, off, none⟩) mets.length cm) := by rw [cell_of_row _ _ _ _ _ _ hrow]; rfl
            go_simp
           go_frame
           refine zgc 4 ?_
           go_frame
           refine zgc 5 ?_
           go_frame
           refine wpG_rel 6 rfl rfl rfl ?_ ?_
           ·intro u hu hh
            go_simp
            refine (HCM.out u (HE.out.1.trans (hu.mono HE.out.1.size))).mono ?_
            rintro e w6 ⟨rfl, hb6⟩
            exact ⟨_, rfl, rfl, hb6⟩
           intro v6 ⟨u6, _, hr6⟩
           obtain rfl : v6 = errVal F := hr6
           go_frame
           refine zgc 7 ?_
           go_frame
           refine wpG_nil fun w6 hb6 hF => ?_
           clear hF
           have HB6 := hid (HB5.out.trans (hb6.mono HB5.out.size))
           have HR6 := hid (HR5.out.trans (hb6.mono HR5.out.size))
           clear hb6 hW5
           by_cases h0 : F = 0
           ·have HP4 := hid (HOK.out (HFF.out.trans h0))
            rw [errVal_zero h0]
            clear h0
            go_wp2_with fail
            go_roundw
            case rel => exact ⟨k3 + 1, by omega, by go_num, HR6, HP4⟩
            case measure => simp [intOf]; omega
           ·have HZ5 : Hid (Z = F) := hid (by
             have h1 := HNO.out (by rw [HFF.out]; exact h0)
             rw [HFF.out] at h1
             have := HZ4.out; rw [h1, if_pos h0] at this; exact this.symm)
            have HE := hid (errVal_ne h0)
            rw [errVal_ne h0]
            clear h0
            go_wp2_with fail
            go_ret
            rw [HZ5.out, HE.out]
            exact ⟨rfl, HB6.out⟩
          ·have HZ5 : Hid ((if face = true ∧ 0 < fields.length then 8 else 0) = Z) := hid (by
            have h1 := HP3.out.trans (fb_end hlt)
            have := HZ4.out; rw [if_neg (by rw [h1]; decide)] at this; exact this)
           have hge3 : ¬ (k3 : Int) < (mets.length : Int) := by omega
           have hk3' : wr.cell? ⟨w.heap.size, 3, none⟩ = some (.bool face) := by rw [cell_of_row _ _ _ _ _ _ HXR3.out]; rfl
           have hk4 : wr.cell? ⟨w.heap.size, 4, none⟩ = some (.slice ad fields.length cd) := by rw [cell_of_row _ _ _ _ _ _ HXR3.out]; rfl
           clear hlt HP3 HZ4 HSM3
           cases face with
           | false =>
            have HZ6 : Hid (Z = 0) := hid (by rw [← HZ5.out]; simp)
            go_wp2_with fail
            go_ret
            rw [HZ6.out]
            exact ⟨rfl, HBR3.out⟩
           | true =>
            obtain ⟨n, hn⟩ : ∃ n, fields.length = n := ⟨_, rfl⟩
            rw [hn] at hk4
            by_cases h0 : 0 < n
            ·have HZ6 : Hid (Z = 8) := hid (by rw [← HZ5.out, if_pos ⟨rfl, by omega⟩])
             have h0i : (0 : Int) < (n : Int) := by omega
             have hn8 : n ≤ 1048576 := by omega
             clear hn
             go_wp2_with fail
             go_ret
             rw [HZ6.out]
             exact ⟨rfl, HBR3.out⟩
            ·have HZ6 : Hid (Z = 0) := hid (by rw [← HZ5.out, if_neg (by omega)])
             obtain rfl : n = 0 := by omega
             clear h0 hn
             go_wp2_with fail
             go_ret
             rw [HZ6.out]
             exact ⟨rfl, HBR3.out⟩
end Go.Proofs.YtloonnfelgokmaaGreatDoor.classes
