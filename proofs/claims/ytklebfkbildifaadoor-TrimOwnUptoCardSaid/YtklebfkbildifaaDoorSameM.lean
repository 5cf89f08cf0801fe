/- coffeehousesame.Handlers and coffeehousesame.Method of two that read alike. Condition: they are not long. -/
import Derived.Test.YtklebfkbildifaaDoorTrim4
import Derived.Test.YtklebfkbildifaaDoorCls1
namespace Go.Proofs.YtklebfkbildifaaDoor.trims
open Go.RowKit Go.Proofs.YtklebfkbildifaaDoor.lib Go.Proofs.YtklebfkbildifaaDoor.errs Go.Proofs.YtklebfkbildifaaDoor.names Go.Proofs.YtklebfkbildifaaDoor.descs Go.Proofs.YtklebfkbildifaaDoor.ins Go.Proofs.YtklebfkbildifaaDoor.reach Go.Proofs.YtklebfkbildifaaDoor.flows Go.Proofs.YtklebfkbildifaaDoor.hdls Go.Proofs.YtklebfkbildifaaDoor.classes

theorem hd_fields : Tryd.prog.underlying 35 = some (.struct (Tryd.prog.fieldsOf 35)) := by kernel_rfl
theorem hd_stood : Tryd.prog.stoodInHeld 35 = false := by kernel_rfl
theorem hd_guard : Tryd.prog.eqGuardType Tryd.prog.depth 35 = false := by kernel_rfl
theorem hd_len : (Tryd.prog.fieldsOf 35).toList.length = 4 := by kernel_rfl
theorem hd_names : (Tryd.prog.fieldsOf 35).toList.map (fun f => (f.type, f.offset, decide (f.name ≠ "_"))) = [(3, 0, true), (3, 1, true), (3, 2, true), (9, 3, true)] := by kernel_rfl

theorem eq_sameH (d : Nat) (a b c : Int) (n : ByteArray) (w : World) : (Op.equalIn (d + 2) 35 (.agg #[.int .i64 a, .int .i64 b, .int .i64 c, .string n]) (.agg #[.int .i64 a, .int .i64 b, .int .i64 c, .string n])).run Tryd.prog w = .ok true w := by
  rw [run_equalIn_agg w _ _ _ _ hd_fields hd_stood]
  have hn := hd_names
  have hl := hd_len
  generalize (Tryd.prog.fieldsOf 35).toList = fs at hn hl
  match fs, hl with
  | [f0, f1, f2, f3], _ =>
    simp only [List.map_cons, List.map_nil, List.cons.injEq, Prod.mk.injEq, decide_eq_true_eq, and_true] at hn
    obtain ⟨⟨t0, o0, n0⟩, ⟨t1, o1, n1⟩, ⟨t2, o2, n2⟩, t3, o3, n3⟩ := hn
    have ui := Tryd.underlying3
    have us := Tryd.underlying9
    simp only [Op.eqFields, n0, n1, n2, n3, t0, t1, t2, t3, o0, o1, o2, o3, ne_eq, not_false_eq_true, if_true, Sem.run_bind]
    have p0 := part_int w #[.int .i64 a, .int .i64 b, .int .i64 c, .string n] 0 (.int .i64 a) rfl
    have p1 := part_int w #[.int .i64 a, .int .i64 b, .int .i64 c, .string n] 1 (.int .i64 b) rfl
    have p2 := part_int w #[.int .i64 a, .int .i64 b, .int .i64 c, .string n] 2 (.int .i64 c) rfl
    have p3 := part_str w #[.int .i64 a, .int .i64 b, .int .i64 c, .string n] 3 (.string n) rfl
    have e0 := run_equalIn_int w d _ .i64 _ a a ui
    have e1 := run_equalIn_int w d _ .i64 _ b b ui
    have e2 := run_equalIn_int w d _ .i64 _ c c ui
    have e3 := run_equalIn_string w d _ n n us
    simp [p0, p1, p2, p3, e0, e1, e2, e3, Result.andThen]
theorem neq_sameH (a b c : Int) (n : ByteArray) (w : World) : (binOp .neq 35 (.agg #[.int .i64 a, .int .i64 b, .int .i64 c, .string n]) (.agg #[.int .i64 a, .int .i64 b, .int .i64 c, .string n])).run Tryd.prog w = .ok (.bool false) w := by
  rw [run_neq_struct, eq_sameH 9998]; rfl

set_option maxRecDepth 100000 in
set_option maxHeartbeats 2000000 in
theorem shds_same (va vb : Value) (l : List Hd) (w : World) (ha : Hds w va l) (hb : Hds w vb l) (hn : l.length ≤ 1000000000000) :
    Calls Tryd.prog 48 #[va, vb] w fun e w' => e = .returned (.bool true) ∧ Below w.heap.size w w' := by
  obtain ⟨a, c, rfl⟩ := ha.val
  obtain ⟨b, d, rfl⟩ := hb.val
  have HA := hid ha; have HB := hid hb
  have hg := hd_guard
  clear ha hb
  go_enter Tryd.func48, Tryd.ntmps48
  go_wp2_with fail
  go_loopw [5] (fun i wr => ∃ k : Nat, k ≤ l.length ∧ i = .int .i64 k ∧ Hid (Below w.heap.size w wr)) (fun i _ => l.length - (intOf i).toNat)
  case atStart => exact ⟨0, Nat.zero_le _, rfl, hid (Below.refl _ _)⟩
  case round =>
    obtain ⟨k, hk, rfl, HR⟩ := hrel
    by_cases hlt : k < l.length
    · obtain ⟨b1, o1, h1, hc0, hc1, hc2, hc3⟩ := hd_at (HA.out.below HR.out) hlt
      obtain ⟨b2, o2, h2, hd0, hd1, hd2, hd3⟩ := hd_at (HB.out.below HR.out) hlt
      subst h1
      subst h2
      have hi : (0 : Int) ≤ (k : Int) := by omega
      have hkl : (k : Int) < (l.length : Int) := by omega
      generalize l[k] = x at hc0 hc1 hc2 hc3 hd0 hd1 hd2 hd3
      obtain ⟨fr, to, at_, cls⟩ := x
      have hq := neq_sameH fr to at_ cls
      go_wp2_with fail
      go_quiet (fail)
      go_wp2
      go_roundw
      case rel => exact ⟨k + 1, by omega, by go_num, hid (below_drewN HR.out _)⟩
      case measure => simp [intOf]; omega
    · have hge : ¬ (k : Int) < (l.length : Int) := by omega
      go_wp2
      go_ret
      exact ⟨rfl, HR.out⟩

set_option maxRecDepth 100000 in
set_option maxHeartbeats 4000000 in
/-- two methods that read alike -/
theorem smet_same (nm ty : ByteArray) (st ab pr : Bool) (lo : Int) (vc vh vc2 vh2 : Value) (l : List I) (hs : List Hd) (w : World) (hc : Go.Proofs.YtklebfkbildifaaDoor.flows.Code w vc l) (hv : Hds w vh hs) (hc2 : Go.Proofs.YtklebfkbildifaaDoor.flows.Code w vc2 l) (hv2 : Hds w vh2 hs)
    (hn : l.length ≤ 1000000000000) (hm : hs.length ≤ 1000000000000) :
    Calls Tryd.prog 14 #[.agg #[.string nm, .string ty, .bool st, .bool ab, .bool pr, .int .i64 lo, vc, vh], .agg #[.string nm, .string ty, .bool st, .bool ab, .bool pr, .int .i64 lo, vc2, vh2]] w fun e w' => e = .returned (.bool true) ∧ Below w.heap.size w w' := by
  obtain ⟨ac, cc, rfl⟩ := hc.val
  obtain ⟨ah, ch, rfl⟩ := hv.val
  obtain ⟨ac2, cc2, rfl⟩ := hc2.val
  obtain ⟨ah2, ch2, rfl⟩ := hv2.val
  have HC := hid (fun (u : World) (h : Below w.heap.size w u) => scode_same (.slice ac l.length cc) (.slice ac2 l.length cc2) l u (hc.below h) (hc2.below h) hn)
  have HV := hid (fun (u : World) (h : Below w.heap.size w u) => shds_same (.slice ah hs.length ch) (.slice ah2 hs.length ch2) hs u (hv.below h) (hv2.below h) hm)
  obtain ⟨W0, hW0⟩ : ∃ W, (w.alloc (.cells #[.string nm, .string ty, .bool st, .bool ab, .bool pr, .int .i64 lo, .slice ac l.length cc, .slice ah hs.length ch] 25)).alloc (.cells #[.string nm, .string ty, .bool st, .bool ab, .bool pr, .int .i64 lo, .slice ac2 l.length cc2, .slice ah2 hs.length ch2] 25) = W := ⟨_, rfl⟩
  have HB0 : Hid (Below w.heap.size w W0) := hid (by subst hW0; exact (ext_alloc w _).alloc (ext_alloc w _).size _)
  have HX : Hid (W0.heap[w.heap.size]? = some (.cells #[.string nm, .string ty, .bool st, .bool ab, .bool pr, .int .i64 lo, .slice ac l.length cc, .slice ah hs.length ch] 25)) := hid (by subst hW0; exact heap_alloc2_old _ _ _)
  have HY : Hid (W0.heap[w.heap.size + 1]? = some (.cells #[.string nm, .string ty, .bool st, .bool ab, .bool pr, .int .i64 lo, .slice ac2 l.length cc2, .slice ah2 hs.length ch2] 25)) := hid (by subst hW0; exact heap_alloc2_new _ _ _)
  have HS : Hid (w.heap.size + 1 < W0.heap.size) := hid (by subst hW0; simp)
  have p0 : W0.cell? ⟨w.heap.size, 0, none⟩ = some (.string nm) := by rw [cell_of_row _ _ _ _ _ _ HX.out]; rfl
  have p1 : W0.cell? ⟨w.heap.size, 1, none⟩ = some (.string ty) := by rw [cell_of_row _ _ _ _ _ _ HX.out]; rfl
  have p2 : W0.cell? ⟨w.heap.size, 2, none⟩ = some (.bool st) := by rw [cell_of_row _ _ _ _ _ _ HX.out]; rfl
  have p3 : W0.cell? ⟨w.heap.size, 3, none⟩ = some (.bool ab) := by rw [cell_of_row _ _ _ _ _ _ HX.out]; rfl
  have p4 : W0.cell? ⟨w.heap.size, 4, none⟩ = some (.bool pr) := by rw [cell_of_row _ _ _ _ _ _ HX.out]; rfl
  have p5 : W0.cell? ⟨w.heap.size, 5, none⟩ = some (.int .i64 lo) := by rw [cell_of_row _ _ _ _ _ _ HX.out]; rfl
  have p6 : W0.cell? ⟨w.heap.size, 6, none⟩ = some (.slice ac l.length cc) := by rw [cell_of_row _ _ _ _ _ _ HX.out]; rfl
  have q0 : W0.cell? ⟨w.heap.size + 1, 0, none⟩ = some (.string nm) := by rw [cell_of_row _ _ _ _ _ _ HY.out]; rfl
  have q1 : W0.cell? ⟨w.heap.size + 1, 1, none⟩ = some (.string ty) := by rw [cell_of_row _ _ _ _ _ _ HY.out]; rfl
  have q2 : W0.cell? ⟨w.heap.size + 1, 2, none⟩ = some (.bool st) := by rw [cell_of_row _ _ _ _ _ _ HY.out]; rfl
  have q3 : W0.cell? ⟨w.heap.size + 1, 3, none⟩ = some (.bool ab) := by rw [cell_of_row _ _ _ _ _ _ HY.out]; rfl
  have q4 : W0.cell? ⟨w.heap.size + 1, 4, none⟩ = some (.bool pr) := by rw [cell_of_row _ _ _ _ _ _ HY.out]; rfl
  have q5 : W0.cell? ⟨w.heap.size + 1, 5, none⟩ = some (.int .i64 lo) := by rw [cell_of_row _ _ _ _ _ _ HY.out]; rfl
  have q6 : W0.cell? ⟨w.heap.size + 1, 6, none⟩ = some (.slice ac2 l.length cc2) := by rw [cell_of_row _ _ _ _ _ _ HY.out]; rfl
  clear hc hv hc2 hv2
  go_enter Tryd.func14, Tryd.ntmps14
  go_wp2_with fail
  refine (HC.out W0 HB0.out).mono ?_
  rintro e w1 ⟨rfl, hb1⟩
  clear hW0 p0 p1 p2 p3 p4 p5 p6 q0 q1 q2 q3 q4 q5 q6
  have p7 : w1.cell? ⟨w.heap.size, 7, none⟩ = some (.slice ah hs.length ch) := by rw [cell_of_row _ _ _ _ _ _ ((hb1.block _ (by have := HS.out; omega)).trans HX.out)]; rfl
  have q7 : w1.cell? ⟨w.heap.size + 1, 7, none⟩ = some (.slice ah2 hs.length ch2) := by rw [cell_of_row _ _ _ _ _ _ ((hb1.block _ HS.out).trans HY.out)]; rfl
  have HB1 := hid (HB0.out.trans (hb1.mono HB0.out.size))
  clear hb1
  go_wp2_with fail
  refine (HV.out w1 HB1.out).mono ?_
  rintro e w2 ⟨rfl, hb2⟩
  have HB2 := hid (HB1.out.trans (hb2.mono HB1.out.size))
  clear hb2 p7 q7
  go_wp2_with fail
  go_ret
  exact ⟨rfl, HB2.out⟩
end Go.Proofs.YtklebfkbildifaaDoor.trims
