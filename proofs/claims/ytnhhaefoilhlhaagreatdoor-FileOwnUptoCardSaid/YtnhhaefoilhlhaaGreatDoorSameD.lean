/- coffeehousesame: are two lists of texts, instructions, handlers, two methods, two classes the same? Conditions: they are not long. -/
import Derived.Test.YtnhhaefoilhlhaaGreatDoorFlowP
import Derived.Test.YtnhhaefoilhlhaaGreatDoorCls1
import Derived.Test.YtnhhaefoilhlhaaGreatDoorFile8
import Derived.Test.YtnhhaefoilhlhaaGreatDoorGrowP
import Derived.Laws.StructEq
set_option linter.unusedSimpArgs false
set_option linter.unusedVariables false
namespace Go.Proofs.YtnhhaefoilhlhaaGreatDoor.same
open Go.RowKit Go.Proofs.YtnhhaefoilhlhaaGreatDoor.lib Go.Proofs.YtnhhaefoilhlhaaGreatDoor.errs Go.Proofs.YtnhhaefoilhlhaaGreatDoor.names Go.Proofs.YtnhhaefoilhlhaaGreatDoor.descs Go.Proofs.YtnhhaefoilhlhaaGreatDoor.ins Go.Proofs.YtnhhaefoilhlhaaGreatDoor.nums Go.Proofs.YtnhhaefoilhlhaaGreatDoor.flows Go.Proofs.YtnhhaefoilhlhaaGreatDoor.hdls Go.Proofs.YtnhhaefoilhlhaaGreatDoor.classes Go.Proofs.YtnhhaefoilhlhaaGreatDoor.files Go.Proofs.YtnhhaefoilhlhaaGreatDoor.grow

theorem same_str (x y : ByteArray) : (x.toList == y.toList) = decide (x = y) := by
  by_cases h : x = y
  · subst h; simp
  · have : ¬ x.toList = y.toList := fun e => by
      rw [ByteArray.toList_eq, ByteArray.toList_eq] at e
      exact h (ByteArray.ext (Array.ext' e))
    simp [h, this]
theorem part_int (w : World) (cs : Array Value) (off : Nat) (v : Value) (h : cs[off]? = some v) : (part 3 cs off).run Tryz.prog w = .ok v w := by
  simp [part, h, Result.andThen]
theorem part_str (w : World) (cs : Array Value) (off : Nat) (v : Value) (h : cs[off]? = some v) : (part 9 cs off).run Tryz.prog w = .ok v w := by
  simp [part, h, Result.andThen]
/-- the answer tells just whether this is so -/
def SameBy (w : World) (p : Prop) (e : Ending) (w' : World) : Prop := ∃ r, e = .returned (.bool r) ∧ (r = true ↔ p) ∧ Below w.heap.size w w'
theorem hdl_fields : Tryz.prog.underlying 90 = some (.struct (Tryz.prog.fieldsOf 90)) := by kernel_rfl
theorem hdl_stood : Tryz.prog.stoodInHeld 90 = false := by kernel_rfl
theorem hdl_guard : Tryz.prog.eqGuardType Tryz.prog.depth 90 = false := by kernel_rfl
theorem hdl_len : (Tryz.prog.fieldsOf 90).toList.length = 4 := by kernel_rfl
theorem hdl_names : (Tryz.prog.fieldsOf 90).toList.map (fun f => (f.type, f.offset, decide (f.name ≠ "_"))) = [(3, 0, true), (3, 1, true), (3, 2, true), (9, 3, true)] := by kernel_rfl
theorem eq_hdl (d : Nat) (x0 y0 x1 y1 x2 y2 : Int) (x3 y3 : ByteArray) (w : World) : (Op.equalIn (d + 2) 90 (.agg #[.int .i64 x0, .int .i64 x1, .int .i64 x2, .string x3]) (.agg #[.int .i64 y0, .int .i64 y1, .int .i64 y2, .string y3])).run Tryz.prog w = .ok (decide (x0 = y0 ∧ x1 = y1 ∧ x2 = y2 ∧ x3 = y3)) w := by
  rw [run_equalIn_agg w _ _ _ _ hdl_fields hdl_stood]
  have hn := hdl_names
  have hl := hdl_len
  generalize (Tryz.prog.fieldsOf 90).toList = fs at hn hl
  match fs, hl with
  | [f0, f1, f2, f3], _ =>
    simp only [List.map_cons, List.map_nil, List.cons.injEq, Prod.mk.injEq, decide_eq_true_eq, and_true] at hn
    obtain ⟨⟨t0, o0, n0⟩, ⟨t1, o1, n1⟩, ⟨t2, o2, n2⟩, t3, o3, n3⟩ := hn
    have ui := Tryz.underlying3
    have us := Tryz.underlying9
    simp only [Op.eqFields, n0, n1, n2, n3, t0, t1, t2, t3, o0, o1, o2, o3, ne_eq, not_false_eq_true, if_true, Sem.run_bind]
    have px0 := part_int w #[.int .i64 x0, .int .i64 x1, .int .i64 x2, .string x3] 0 (.int .i64 x0) rfl
    have py0 := part_int w #[.int .i64 y0, .int .i64 y1, .int .i64 y2, .string y3] 0 (.int .i64 y0) rfl
    have e0 := run_equalIn_int w d _ .i64 _ x0 y0 ui
    have px1 := part_int w #[.int .i64 x0, .int .i64 x1, .int .i64 x2, .string x3] 1 (.int .i64 x1) rfl
    have py1 := part_int w #[.int .i64 y0, .int .i64 y1, .int .i64 y2, .string y3] 1 (.int .i64 y1) rfl
    have e1 := run_equalIn_int w d _ .i64 _ x1 y1 ui
    have px2 := part_int w #[.int .i64 x0, .int .i64 x1, .int .i64 x2, .string x3] 2 (.int .i64 x2) rfl
    have py2 := part_int w #[.int .i64 y0, .int .i64 y1, .int .i64 y2, .string y3] 2 (.int .i64 y2) rfl
    have e2 := run_equalIn_int w d _ .i64 _ x2 y2 ui
    have px3 := part_str w #[.int .i64 x0, .int .i64 x1, .int .i64 x2, .string x3] 3 (.string x3) rfl
    have py3 := part_str w #[.int .i64 y0, .int .i64 y1, .int .i64 y2, .string y3] 3 (.string y3) rfl
    have e3 := run_equalIn_string w d _ x3 y3 us
    rw [same_str] at e3
    by_cases h0 : x0 = y0
    · subst h0
      by_cases h1 : x1 = y1
      · subst h1
        by_cases h2 : x2 = y2
        · subst h2
          by_cases h3 : x3 = y3
          · subst h3
            simp [px0, py0, e0, px1, py1, e1, px2, py2, e2, px3, py3, e3, Result.andThen]
          · simp [px0, py0, e0, px1, py1, e1, px2, py2, e2, px3, py3, e3, Result.andThen, h3]
        · simp [px0, py0, e0, px1, py1, e1, px2, py2, e2, px3, py3, e3, Result.andThen, h2]
      · simp [px0, py0, e0, px1, py1, e1, px2, py2, e2, px3, py3, e3, Result.andThen, h1]
    · simp [px0, py0, e0, px1, py1, e1, px2, py2, e2, px3, py3, e3, Result.andThen, h0]
theorem neq_hdl (x0 y0 x1 y1 x2 y2 : Int) (x3 y3 : ByteArray) (w : World) : (binOp .neq 90 (.agg #[.int .i64 x0, .int .i64 x1, .int .i64 x2, .string x3]) (.agg #[.int .i64 y0, .int .i64 y1, .int .i64 y2, .string y3])).run Tryz.prog w = .ok (.bool (!decide (x0 = y0 ∧ x1 = y1 ∧ x2 = y2 ∧ x3 = y3))) w := by
  rw [run_neq_struct, eq_hdl 9998]; rfl
theorem insn_fields : Tryz.prog.underlying 109 = some (.struct (Tryz.prog.fieldsOf 109)) := by kernel_rfl
theorem insn_stood : Tryz.prog.stoodInHeld 109 = false := by kernel_rfl
theorem insn_guard : Tryz.prog.eqGuardType Tryz.prog.depth 109 = false := by kernel_rfl
theorem insn_len : (Tryz.prog.fieldsOf 109).toList.length = 6 := by kernel_rfl
theorem insn_names : (Tryz.prog.fieldsOf 109).toList.map (fun f => (f.type, f.offset, decide (f.name ≠ "_"))) = [(3, 0, true), (3, 1, true), (3, 2, true), (9, 3, true), (9, 4, true), (9, 5, true)] := by kernel_rfl
theorem eq_insn (d : Nat) (x0 y0 x1 y1 x2 y2 : Int) (x3 y3 x4 y4 x5 y5 : ByteArray) (w : World) : (Op.equalIn (d + 2) 109 (.agg #[.int .i64 x0, .int .i64 x1, .int .i64 x2, .string x3, .string x4, .string x5]) (.agg #[.int .i64 y0, .int .i64 y1, .int .i64 y2, .string y3, .string y4, .string y5])).run Tryz.prog w = .ok (decide (x0 = y0 ∧ x1 = y1 ∧ x2 = y2 ∧ x3 = y3 ∧ x4 = y4 ∧ x5 = y5)) w := by
  rw [run_equalIn_agg w _ _ _ _ insn_fields insn_stood]
  have hn := insn_names
  have hl := insn_len
  generalize (Tryz.prog.fieldsOf 109).toList = fs at hn hl
  match fs, hl with
  | [f0, f1, f2, f3, f4, f5], _ =>
    simp only [List.map_cons, List.map_nil, List.cons.injEq, Prod.mk.injEq, decide_eq_true_eq, and_true] at hn
    obtain ⟨⟨t0, o0, n0⟩, ⟨t1, o1, n1⟩, ⟨t2, o2, n2⟩, ⟨t3, o3, n3⟩, ⟨t4, o4, n4⟩, t5, o5, n5⟩ := hn
    have ui := Tryz.underlying3
    have us := Tryz.underlying9
    simp only [Op.eqFields, n0, n1, n2, n3, n4, n5, t0, t1, t2, t3, t4, t5, o0, o1, o2, o3, o4, o5, ne_eq, not_false_eq_true, if_true, Sem.run_bind]
    have px0 := part_int w #[.int .i64 x0, .int .i64 x1, .int .i64 x2, .string x3, .string x4, .string x5] 0 (.int .i64 x0) rfl
    have py0 := part_int w #[.int .i64 y0, .int .i64 y1, .int .i64 y2, .string y3, .string y4, .string y5] 0 (.int .i64 y0) rfl
    have e0 := run_equalIn_int w d _ .i64 _ x0 y0 ui
    have px1 := part_int w #[.int .i64 x0, .int .i64 x1, .int .i64 x2, .string x3, .string x4, .string x5] 1 (.int .i64 x1) rfl
    have py1 := part_int w #[.int .i64 y0, .int .i64 y1, .int .i64 y2, .string y3, .string y4, .string y5] 1 (.int .i64 y1) rfl
    have e1 := run_equalIn_int w d _ .i64 _ x1 y1 ui
    have px2 := part_int w #[.int .i64 x0, .int .i64 x1, .int .i64 x2, .string x3, .string x4, .string x5] 2 (.int .i64 x2) rfl
    have py2 := part_int w #[.int .i64 y0, .int .i64 y1, .int .i64 y2, .string y3, .string y4, .string y5] 2 (.int .i64 y2) rfl
    have e2 := run_equalIn_int w d _ .i64 _ x2 y2 ui
    have px3 := part_str w #[.int .i64 x0, .int .i64 x1, .int .i64 x2, .string x3, .string x4, .string x5] 3 (.string x3) rfl
    have py3 := part_str w #[.int .i64 y0, .int .i64 y1, .int .i64 y2, .string y3, .string y4, .string y5] 3 (.string y3) rfl
    have e3 := run_equalIn_string w d _ x3 y3 us
    rw [same_str] at e3
    have px4 := part_str w #[.int .i64 x0, .int .i64 x1, .int .i64 x2, .string x3, .string x4, .string x5] 4 (.string x4) rfl
    have py4 := part_str w #[.int .i64 y0, .int .i64 y1, .int .i64 y2, .string y3, .string y4, .string y5] 4 (.string y4) rfl
    have e4 := run_equalIn_string w d _ x4 y4 us
    rw [same_str] at e4
    have px5 := part_str w #[.int .i64 x0, .int .i64 x1, .int .i64 x2, .string x3, .string x4, .string x5] 5 (.string x5) rfl
    have py5 := part_str w #[.int .i64 y0, .int .i64 y1, .int .i64 y2, .string y3, .string y4, .string y5] 5 (.string y5) rfl
    have e5 := run_equalIn_string w d _ x5 y5 us
    rw [same_str] at e5
    by_cases h0 : x0 = y0
    · subst h0
      by_cases h1 : x1 = y1
      · subst h1
        by_cases h2 : x2 = y2
        · subst h2
          by_cases h3 : x3 = y3
          · subst h3
            by_cases h4 : x4 = y4
            · subst h4
              by_cases h5 : x5 = y5
              · subst h5
                simp [px0, py0, e0, px1, py1, e1, px2, py2, e2, px3, py3, e3, px4, py4, e4, px5, py5, e5, Result.andThen]
              · simp [px0, py0, e0, px1, py1, e1, px2, py2, e2, px3, py3, e3, px4, py4, e4, px5, py5, e5, Result.andThen, h5]
            · simp [px0, py0, e0, px1, py1, e1, px2, py2, e2, px3, py3, e3, px4, py4, e4, px5, py5, e5, Result.andThen, h4]
          · simp [px0, py0, e0, px1, py1, e1, px2, py2, e2, px3, py3, e3, px4, py4, e4, px5, py5, e5, Result.andThen, h3]
        · simp [px0, py0, e0, px1, py1, e1, px2, py2, e2, px3, py3, e3, px4, py4, e4, px5, py5, e5, Result.andThen, h2]
      · simp [px0, py0, e0, px1, py1, e1, px2, py2, e2, px3, py3, e3, px4, py4, e4, px5, py5, e5, Result.andThen, h1]
    · simp [px0, py0, e0, px1, py1, e1, px2, py2, e2, px3, py3, e3, px4, py4, e4, px5, py5, e5, Result.andThen, h0]
theorem neq_insn (x0 y0 x1 y1 x2 y2 : Int) (x3 y3 x4 y4 x5 y5 : ByteArray) (w : World) : (binOp .neq 109 (.agg #[.int .i64 x0, .int .i64 x1, .int .i64 x2, .string x3, .string x4, .string x5]) (.agg #[.int .i64 y0, .int .i64 y1, .int .i64 y2, .string y3, .string y4, .string y5])).run Tryz.prog w = .ok (.bool (!decide (x0 = y0 ∧ x1 = y1 ∧ x2 = y2 ∧ x3 = y3 ∧ x4 = y4 ∧ x5 = y5))) w := by
  rw [run_neq_struct, eq_insn 9998]; rfl
theorem fld_fields : Tryz.prog.underlying 55 = some (.struct (Tryz.prog.fieldsOf 55)) := by kernel_rfl
theorem fld_stood : Tryz.prog.stoodInHeld 55 = false := by kernel_rfl
theorem fld_guard : Tryz.prog.eqGuardType Tryz.prog.depth 55 = false := by kernel_rfl
theorem fld_len : (Tryz.prog.fieldsOf 55).toList.length = 2 := by kernel_rfl
theorem fld_names : (Tryz.prog.fieldsOf 55).toList.map (fun f => (f.type, f.offset, decide (f.name ≠ "_"))) = [(9, 0, true), (9, 1, true)] := by kernel_rfl
theorem eq_fld (d : Nat) (x0 y0 x1 y1 : ByteArray) (w : World) : (Op.equalIn (d + 2) 55 (.agg #[.string x0, .string x1]) (.agg #[.string y0, .string y1])).run Tryz.prog w = .ok (decide (x0 = y0 ∧ x1 = y1)) w := by
  rw [run_equalIn_agg w _ _ _ _ fld_fields fld_stood]
  have hn := fld_names
  have hl := fld_len
  generalize (Tryz.prog.fieldsOf 55).toList = fs at hn hl
  match fs, hl with
  | [f0, f1], _ =>
    simp only [List.map_cons, List.map_nil, List.cons.injEq, Prod.mk.injEq, decide_eq_true_eq, and_true] at hn
    obtain ⟨⟨t0, o0, n0⟩, t1, o1, n1⟩ := hn
    have ui := Tryz.underlying3
    have us := Tryz.underlying9
    simp only [Op.eqFields, n0, n1, t0, t1, o0, o1, ne_eq, not_false_eq_true, if_true, Sem.run_bind]
    have px0 := part_str w #[.string x0, .string x1] 0 (.string x0) rfl
    have py0 := part_str w #[.string y0, .string y1] 0 (.string y0) rfl
    have e0 := run_equalIn_string w d _ x0 y0 us
    rw [same_str] at e0
    have px1 := part_str w #[.string x0, .string x1] 1 (.string x1) rfl
    have py1 := part_str w #[.string y0, .string y1] 1 (.string y1) rfl
    have e1 := run_equalIn_string w d _ x1 y1 us
    rw [same_str] at e1
    by_cases h0 : x0 = y0
    · subst h0
      by_cases h1 : x1 = y1
      · subst h1
        simp [px0, py0, e0, px1, py1, e1, Result.andThen]
      · simp [px0, py0, e0, px1, py1, e1, Result.andThen, h1]
    · simp [px0, py0, e0, px1, py1, e1, Result.andThen, h0]
theorem neq_fld (x0 y0 x1 y1 : ByteArray) (w : World) : (binOp .neq 55 (.agg #[.string x0, .string x1]) (.agg #[.string y0, .string y1])).run Tryz.prog w = .ok (.bool (!decide (x0 = y0 ∧ x1 = y1))) w := by
  rw [run_neq_struct, eq_fld 9998]; rfl

set_option maxRecDepth 100000 in
set_option maxHeartbeats 2000000 in
/-- coffeehousesame.Handlers -/
theorem handlers_same (va vb : Value) (l m : List Hd) (w : World) (ha : Hds w va l) (hb : Hds w vb m) (hn : l.length ≤ 1000000000000) (hn2 : m.length ≤ 1000000000000) :
    Calls Tryz.prog 44 #[va, vb] w (SameBy w (l = m)) := by
  obtain ⟨a, c, rfl⟩ := ha.val
  obtain ⟨b, d, rfl⟩ := hb.val
  have HA := hid ha; have HB := hid hb
  have hg := hdl_guard
  clear ha hb
  by_cases hlm : l.length = m.length
  · have hl1 : ((l.length : Int) != (m.length : Int)) = false := by simp [hlm]
    have HLM := hid hlm
    clear hlm
    go_enter Tryz.func44, Tryz.ntmps44
    go_wp2_with fail
    go_loopw [5] (fun i wr => ∃ k : Nat, k ≤ l.length ∧ i = .int .i64 k ∧ Hid (Below w.heap.size w wr) ∧ Hid (l.take k = m.take k)) (fun i _ => l.length - (intOf i).toNat)
    case atStart => exact ⟨0, Nat.zero_le _, rfl, hid (Below.refl _ _), hid rfl⟩
    case round =>
      obtain ⟨k, hk, rfl, HR, HT⟩ := hrel
      by_cases hlt : k < l.length
      · have hlt2 : k < m.length := HLM.out ▸ hlt
        obtain ⟨b1, o1, h1, hc0, hc1, hc2, hc3⟩ := hd_at (HA.out.below HR.out) hlt
        obtain ⟨b2, o2, h2, hd0, hd1, hd2, hd3⟩ := hd_at (HB.out.below HR.out) hlt2
        subst h1
        subst h2
        have hi : (0 : Int) ≤ (k : Int) := by omega
        have hkl : (k : Int) < (l.length : Int) := by omega
        have hkm : (k : Int) < (m.length : Int) := by omega
        have HX : Hid (∀ h : l[k] = m[k], l.take (k + 1) = m.take (k + 1)) := hid (fun h => by
          rw [List.take_succ_eq_append_getElem hlt, List.take_succ_eq_append_getElem hlt2, HT.out, h])
        have HNX : Hid (l[k] ≠ m[k] → ¬ l = m) := hid (fun h e => by subst e; exact h rfl)
        generalize l[k] = x at hc0 hc1 hc2 hc3 HX HNX
        generalize m[k] = y at hd0 hd1 hd2 hd3 HX HNX
        obtain ⟨a0_, a1_, a2_, a3_⟩ := x
        obtain ⟨b0_, b1_, b2_, b3_⟩ := y
        have hq := neq_hdl a0_ b0_ a1_ b1_ a2_ b2_ a3_ b3_
        obtain ⟨B, hB⟩ : ∃ B, decide (a0_ = b0_ ∧ a1_ = b1_ ∧ a2_ = b2_ ∧ a3_ = b3_) = B := ⟨_, rfl⟩
        rw [hB] at hq
        have HBB : Hid (B = true ↔ a0_ = b0_ ∧ a1_ = b1_ ∧ a2_ = b2_ ∧ a3_ = b3_) := hid (by rw [← hB]; simp)
        clear hB hlt2
        go_wp2_with fail
        go_quiet (fail)
        cases B with
        | true =>
          obtain ⟨rfl, rfl, rfl, rfl⟩ := HBB.out.1 rfl
          go_wp2
          go_roundw
          case rel => exact ⟨k + 1, by omega, by go_num, hid (below_drewN HR.out _), hid (HX.out rfl)⟩
          case measure => simp [intOf]; omega
        | false =>
          have HN2 := hid (HNX.out (fun h => by simp only [Hd.mk.injEq] at h; exact absurd (HBB.out.2 h) (by decide)))
          go_wp2
          go_ret
          exact ⟨false, rfl, ⟨(fun h => by cases h), fun h => absurd h HN2.out⟩, below_drewN HR.out _⟩
      · have HE : Hid (l = m) := hid (by
          have := HT.out
          rwa [List.take_of_length_le (by omega), List.take_of_length_le (by have := HLM.out; omega)] at this)
        have hge : ¬ (k : Int) < (l.length : Int) := by omega
        go_wp2
        go_ret
        exact ⟨true, rfl, ⟨fun _ => HE.out, fun _ => rfl⟩, HR.out⟩
  · have hl1 : ((l.length : Int) != (m.length : Int)) = true := by
      rw [bne_iff_ne]; omega
    have HLM := hid hlm
    clear hlm
    go_enter Tryz.func44, Tryz.ntmps44
    go_wp2
    go_ret
    exact ⟨false, rfl, ⟨(fun h => by cases h), fun h => absurd (congrArg List.length h) HLM.out⟩, Below.refl _ _⟩

set_option maxRecDepth 100000 in
set_option maxHeartbeats 2000000 in
/-- coffeehousesame.Code -/
theorem code_same (va vb : Value) (l m : List I) (w : World) (ha : Go.Proofs.YtnhhaefoilhlhaaGreatDoor.flows.Code w va l) (hb : Go.Proofs.YtnhhaefoilhlhaaGreatDoor.flows.Code w vb m) (hn : l.length ≤ 1000000000000) (hn2 : m.length ≤ 1000000000000) :
    Calls Tryz.prog 43 #[va, vb] w (SameBy w (l = m)) := by
  obtain ⟨a, c, rfl⟩ := ha.val
  obtain ⟨b, d, rfl⟩ := hb.val
  have HA := hid ha; have HB := hid hb
  have hg := insn_guard
  clear ha hb
  by_cases hlm : l.length = m.length
  · have hl1 : ((l.length : Int) != (m.length : Int)) = false := by simp [hlm]
    have HLM := hid hlm
    clear hlm
    go_enter Tryz.func43, Tryz.ntmps43
    go_wp2_with fail
    go_loopw [5] (fun i wr => ∃ k : Nat, k ≤ l.length ∧ i = .int .i64 k ∧ Hid (Below w.heap.size w wr) ∧ Hid (l.take k = m.take k)) (fun i _ => l.length - (intOf i).toNat)
    case atStart => exact ⟨0, Nat.zero_le _, rfl, hid (Below.refl _ _), hid rfl⟩
    case round =>
      obtain ⟨k, hk, rfl, HR, HT⟩ := hrel
      by_cases hlt : k < l.length
      · have hlt2 : k < m.length := HLM.out ▸ hlt
        obtain ⟨b1, o1, h1, hc0, hc1, hc2, hc3, hc4, hc5⟩ := code_at (HA.out.below HR.out) hlt
        obtain ⟨b2, o2, h2, hd0, hd1, hd2, hd3, hd4, hd5⟩ := code_at (HB.out.below HR.out) hlt2
        subst h1
        subst h2
        have hi : (0 : Int) ≤ (k : Int) := by omega
        have hkl : (k : Int) < (l.length : Int) := by omega
        have hkm : (k : Int) < (m.length : Int) := by omega
        have HX : Hid (∀ h : l[k] = m[k], l.take (k + 1) = m.take (k + 1)) := hid (fun h => by
          rw [List.take_succ_eq_append_getElem hlt, List.take_succ_eq_append_getElem hlt2, HT.out, h])
        have HNX : Hid (l[k] ≠ m[k] → ¬ l = m) := hid (fun h e => by subst e; exact h rfl)
        generalize l[k] = x at hc0 hc1 hc2 hc3 hc4 hc5 HX HNX
        generalize m[k] = y at hd0 hd1 hd2 hd3 hd4 hd5 HX HNX
        obtain ⟨a0_, a1_, a2_, a3_, a4_, a5_⟩ := x
        obtain ⟨b0_, b1_, b2_, b3_, b4_, b5_⟩ := y
        have hq := neq_insn a0_ b0_ a1_ b1_ a2_ b2_ a3_ b3_ a4_ b4_ a5_ b5_
        obtain ⟨B, hB⟩ : ∃ B, decide (a0_ = b0_ ∧ a1_ = b1_ ∧ a2_ = b2_ ∧ a3_ = b3_ ∧ a4_ = b4_ ∧ a5_ = b5_) = B := ⟨_, rfl⟩
        rw [hB] at hq
        have HBB : Hid (B = true ↔ a0_ = b0_ ∧ a1_ = b1_ ∧ a2_ = b2_ ∧ a3_ = b3_ ∧ a4_ = b4_ ∧ a5_ = b5_) := hid (by rw [← hB]; simp)
        clear hB hlt2
        go_wp2_with fail
        go_quiet (fail)
        cases B with
        | true =>
          obtain ⟨rfl, rfl, rfl, rfl, rfl, rfl⟩ := HBB.out.1 rfl
          go_wp2
          go_roundw
          case rel => exact ⟨k + 1, by omega, by go_num, hid (below_drewN HR.out _), hid (HX.out rfl)⟩
          case measure => simp [intOf]; omega
        | false =>
          have HN2 := hid (HNX.out (fun h => by simp only [I.mk.injEq] at h; exact absurd (HBB.out.2 h) (by decide)))
          go_wp2
          go_ret
          exact ⟨false, rfl, ⟨(fun h => by cases h), fun h => absurd h HN2.out⟩, below_drewN HR.out _⟩
      · have HE : Hid (l = m) := hid (by
          have := HT.out
          rwa [List.take_of_length_le (by omega), List.take_of_length_le (by have := HLM.out; omega)] at this)
        have hge : ¬ (k : Int) < (l.length : Int) := by omega
        go_wp2
        go_ret
        exact ⟨true, rfl, ⟨fun _ => HE.out, fun _ => rfl⟩, HR.out⟩
  · have hl1 : ((l.length : Int) != (m.length : Int)) = true := by
      rw [bne_iff_ne]; omega
    have HLM := hid hlm
    clear hlm
    go_enter Tryz.func43, Tryz.ntmps43
    go_wp2
    go_ret
    exact ⟨false, rfl, ⟨(fun h => by cases h), fun h => absurd (congrArg List.length h) HLM.out⟩, Below.refl _ _⟩

set_option maxRecDepth 100000 in
set_option maxHeartbeats 2000000 in
/-- coffeehousesame.Texts -/
theorem texts_same (va vb : Value) (l m : List ByteArray) (w : World) (ha : Sl w va l.length 1 (l.map .string)) (hb : Sl w vb m.length 1 (m.map .string)) (hn : l.length ≤ 1000000000000) (hn2 : m.length ≤ 1000000000000) :
    Calls Tryz.prog 28 #[va, vb] w (SameBy w (l = m)) := by
  obtain ⟨a, c, rfl⟩ := ha.val
  obtain ⟨b, d, rfl⟩ := hb.val
  have HA := hid ha; have HB := hid hb
  clear ha hb
  by_cases hlm : l.length = m.length
  · have hl1 : ((l.length : Int) != (m.length : Int)) = false := by simp [hlm]
    have HLM := hid hlm
    clear hlm
    go_enter Tryz.func28, Tryz.ntmps28
    go_wp2_with fail
    go_loopw [5] (fun i wr => ∃ k : Nat, k ≤ l.length ∧ i = .int .i64 k ∧ Hid (Below w.heap.size w wr) ∧ Hid (l.take k = m.take k)) (fun i _ => l.length - (intOf i).toNat)
    case atStart => exact ⟨0, Nat.zero_le _, rfl, hid (Below.refl _ _), hid rfl⟩
    case round =>
      obtain ⟨k, hk, rfl, HR, HT⟩ := hrel
      by_cases hlt : k < l.length
      · have hlt2 : k < m.length := HLM.out ▸ hlt
        obtain ⟨b1, o1, h1, u1, hu1, hc0⟩ := Sl.at1 (HA.out.below HR.out) hlt
        obtain ⟨b2, o2, h2, u2, hu2, hd0⟩ := Sl.at1 (HB.out.below HR.out) hlt2
        rw [List.getElem?_map, List.getElem?_eq_getElem hlt] at hu1
        rw [List.getElem?_map, List.getElem?_eq_getElem hlt2] at hu2
        obtain rfl : u1 = .string l[k] := (Option.some.inj hu1).symm
        obtain rfl : u2 = .string m[k] := (Option.some.inj hu2).symm
        subst h1
        subst h2
        have hi : (0 : Int) ≤ (k : Int) := by omega
        have hkl : (k : Int) < (l.length : Int) := by omega
        have hkm : (k : Int) < (m.length : Int) := by omega
        have HX : Hid (∀ h : l[k] = m[k], l.take (k + 1) = m.take (k + 1)) := hid (fun h => by
          rw [List.take_succ_eq_append_getElem hlt, List.take_succ_eq_append_getElem hlt2, HT.out, h])
        have HNX : Hid (l[k] ≠ m[k] → ¬ l = m) := hid (fun h e => by subst e; exact h rfl)
        clear hu1 hu2
        generalize l[k] = x at hc0 HX HNX
        generalize m[k] = y at hd0 HX HNX
        clear hlt2
        by_cases hxy : x = y
        · subst hxy
          go_wp2_with fail
          go_quiet (fail)
          go_wp2
          go_roundw
          case rel => exact ⟨k + 1, by omega, by go_num, hid (below_drewN HR.out _), hid (by first | exact HX.out rfl | exact HX.out trivial)⟩
          case measure => simp [intOf]; omega
        · have hq : (x.toList != y.toList) = true := by
            have := same_str x y
            rw [bne, this]; simp [hxy]
          have hq2 : (x.toList == y.toList) = false := by rw [same_str]; simp [hxy]
          have HN2 := hid (HNX.out hxy)
          clear hxy
          go_wp2_with fail
          go_quiet (fail)
          go_wp2
          go_ret
          exact ⟨false, rfl, ⟨(fun h => by cases h), fun h => absurd h HN2.out⟩, below_drewN HR.out _⟩
      · have HE : Hid (l = m) := hid (by
          have := HT.out
          rwa [List.take_of_length_le (by omega), List.take_of_length_le (by have := HLM.out; omega)] at this)
        have hge : ¬ (k : Int) < (l.length : Int) := by omega
        go_wp2
        go_ret
        exact ⟨true, rfl, ⟨fun _ => HE.out, fun _ => rfl⟩, HR.out⟩
  · have hl1 : ((l.length : Int) != (m.length : Int)) = true := by
      rw [bne_iff_ne]; omega
    have HLM := hid hlm
    clear hlm
    go_enter Tryz.func28, Tryz.ntmps28
    go_wp2
    go_ret
    exact ⟨false, rfl, ⟨(fun h => by cases h), fun h => absurd (congrArg List.length h) HLM.out⟩, Below.refl _ _⟩

set_option maxRecDepth 100000 in
set_option maxHeartbeats 8000000 in
/-- coffeehousesame.Method -/
theorem method_same (x y : MV) (w : World) (hx : x.At w) (hy : y.At w) (h1 : x.code.length ≤ 1000000000000) (h2 : x.hs.length ≤ 1000000000000) (h3 : y.code.length ≤ 1000000000000) (h4 : y.hs.length ≤ 1000000000000) :
    Calls Tryz.prog 29 #[.agg x.cells.toArray, .agg y.cells.toArray] w (SameBy w (bare x = bare y)) := by
  obtain ⟨nm, ty, st, ab, pr, lo, vc, vh, l, hs⟩ := x
  obtain ⟨nm', ty', st', ab', pr', lo', vc2, vh2, l', hs'⟩ := y
  have hc := hx.code; have hv := hx.hs; have hc2 := hy.code; have hv2 := hy.hs
  simp only [MV.cells] at hc hv hc2 hv2 h1 h2 h3 h4 ⊢
  obtain ⟨ac, cc, rfl⟩ := hc.val
  obtain ⟨ah, ch, rfl⟩ := hv.val
  obtain ⟨ac2, cc2, rfl⟩ := hc2.val
  obtain ⟨ah2, ch2, rfl⟩ := hv2.val
  have HC := hid (fun (u : World) (h : Below w.heap.size w u) => code_same (.slice ac l.length cc) (.slice ac2 l'.length cc2) l l' u (hc.below h) (hc2.below h) h1 h3)
  have HV := hid (fun (u : World) (h : Below w.heap.size w u) => handlers_same (.slice ah hs.length ch) (.slice ah2 hs'.length ch2) hs hs' u (hv.below h) (hv2.below h) h2 h4)
  obtain ⟨W0, hW0⟩ : ∃ W, (w.alloc (.cells #[.string nm, .string ty, .bool st, .bool ab, .bool pr, .int .i64 lo, .slice ac l.length cc, .slice ah hs.length ch] 59)).alloc (.cells #[.string nm', .string ty', .bool st', .bool ab', .bool pr', .int .i64 lo', .slice ac2 l'.length cc2, .slice ah2 hs'.length ch2] 59) = W := ⟨_, rfl⟩
  have HB0 : Hid (Below w.heap.size w W0) := hid (by subst hW0; exact (ext_alloc w _).alloc (ext_alloc w _).size _)
  have HX : Hid (W0.heap[w.heap.size]? = some (.cells #[.string nm, .string ty, .bool st, .bool ab, .bool pr, .int .i64 lo, .slice ac l.length cc, .slice ah hs.length ch] 59)) := hid (by subst hW0; exact heap_alloc2_old _ _ _)
  have HY : Hid (W0.heap[w.heap.size + 1]? = some (.cells #[.string nm', .string ty', .bool st', .bool ab', .bool pr', .int .i64 lo', .slice ac2 l'.length cc2, .slice ah2 hs'.length ch2] 59)) := hid (by subst hW0; exact heap_alloc2_new _ _ _)
  have HS : Hid (w.heap.size + 1 < W0.heap.size) := hid (by subst hW0; simp)
  have p0 : W0.cell? ⟨w.heap.size, 0, none⟩ = some (.string nm) := by rw [cell_of_row _ _ _ _ _ _ HX.out]; rfl
  have p1 : W0.cell? ⟨w.heap.size, 1, none⟩ = some (.string ty) := by rw [cell_of_row _ _ _ _ _ _ HX.out]; rfl
  have p2 : W0.cell? ⟨w.heap.size, 2, none⟩ = some (.bool st) := by rw [cell_of_row _ _ _ _ _ _ HX.out]; rfl
  have p3 : W0.cell? ⟨w.heap.size, 3, none⟩ = some (.bool ab) := by rw [cell_of_row _ _ _ _ _ _ HX.out]; rfl
  have p4 : W0.cell? ⟨w.heap.size, 4, none⟩ = some (.bool pr) := by rw [cell_of_row _ _ _ _ _ _ HX.out]; rfl
  have p5 : W0.cell? ⟨w.heap.size, 5, none⟩ = some (.int .i64 lo) := by rw [cell_of_row _ _ _ _ _ _ HX.out]; rfl
  have p6 : W0.cell? ⟨w.heap.size, 6, none⟩ = some (.slice ac l.length cc) := by rw [cell_of_row _ _ _ _ _ _ HX.out]; rfl
  have q0 : W0.cell? ⟨w.heap.size + 1, 0, none⟩ = some (.string nm') := by rw [cell_of_row _ _ _ _ _ _ HY.out]; rfl
  have q1 : W0.cell? ⟨w.heap.size + 1, 1, none⟩ = some (.string ty') := by rw [cell_of_row _ _ _ _ _ _ HY.out]; rfl
  have q2 : W0.cell? ⟨w.heap.size + 1, 2, none⟩ = some (.bool st') := by rw [cell_of_row _ _ _ _ _ _ HY.out]; rfl
  have q3 : W0.cell? ⟨w.heap.size + 1, 3, none⟩ = some (.bool ab') := by rw [cell_of_row _ _ _ _ _ _ HY.out]; rfl
  have q4 : W0.cell? ⟨w.heap.size + 1, 4, none⟩ = some (.bool pr') := by rw [cell_of_row _ _ _ _ _ _ HY.out]; rfl
  have q5 : W0.cell? ⟨w.heap.size + 1, 5, none⟩ = some (.int .i64 lo') := by rw [cell_of_row _ _ _ _ _ _ HY.out]; rfl
  have q6 : W0.cell? ⟨w.heap.size + 1, 6, none⟩ = some (.slice ac2 l'.length cc2) := by rw [cell_of_row _ _ _ _ _ _ HY.out]; rfl
  clear hc hv hc2 hv2 hx hy
  by_cases a_ : nm = nm'
  · subst a_
    by_cases a_ : ty = ty'
    · subst a_
      by_cases a_ : st = st'
      · subst a_
        by_cases a_ : ab = ab'
        · subst a_
          by_cases a_ : pr = pr'
          · subst a_
            by_cases a_ : lo = lo'
            · subst a_
              go_enter Tryz.func29, Tryz.ntmps29
              go_wp2_with fail
              refine (HC.out W0 HB0.out).mono ?_
              rintro e w1 ⟨r, rfl, hr, hb1⟩
              have HRL := hid hr
              have HB1 := hid (HB0.out.trans (hb1.mono HB0.out.size))
              clear hW0 p0 p1 p2 p3 p4 p5 p6 q0 q1 q2 q3 q4 q5 q6
              cases r with
              | false =>
                have HNE : Hid (¬ bare (⟨nm, ty, st, ab, pr, lo, .slice ac l.length cc, .slice ah hs.length ch, l, hs⟩ : MV) = bare (⟨nm, ty, st, ab, pr, lo, .slice ac2 l'.length cc2, .slice ah2 hs'.length ch2, l', hs'⟩ : MV)) := hid (fun h => by
                  have := HRL.out.2 (congrArg MV.code h)
                  cases this)
                clear hb1 hr
                go_wp2
                go_ret
                exact ⟨false, rfl, ⟨(fun h => by cases h), fun h => absurd h HNE.out⟩, HB1.out⟩
              | true =>
                have HL := hid (hr.1 rfl)
                have p7 : w1.cell? ⟨w.heap.size, 7, none⟩ = some (.slice ah hs.length ch) := by rw [cell_of_row _ _ _ _ _ _ ((hb1.block _ (by have := HS.out; omega)).trans HX.out)]; rfl
                have q7 : w1.cell? ⟨w.heap.size + 1, 7, none⟩ = some (.slice ah2 hs'.length ch2) := by rw [cell_of_row _ _ _ _ _ _ ((hb1.block _ HS.out).trans HY.out)]; rfl
                clear hb1 hr
                go_wp2_with fail
                refine (HV.out w1 HB1.out).mono ?_
                rintro e w2 ⟨r, rfl, hr, hb2⟩
                have HB2 := hid (HB1.out.trans (hb2.mono HB1.out.size))
                have HR2 := hid hr
                clear hb2 hr p7 q7
                go_wp2_with fail
                go_ret
                refine ⟨r, rfl, ?_, HB2.out⟩
                rw [HR2.out]
                constructor
                · intro h
                  have h3 := HL.out
                  subst h h3
                  rfl
                · intro h
                  exact congrArg MV.hs h
            · have HNE : Hid (¬ bare (⟨nm, ty, st, ab, pr, lo, .slice ac l.length cc, .slice ah hs.length ch, l, hs⟩ : MV) = bare (⟨nm, ty, st, ab, pr, lo', .slice ac2 l'.length cc2, .slice ah2 hs'.length ch2, l', hs'⟩ : MV)) := hid (fun h => a_ (congrArg MV.lo h))
              have hq : (lo == lo') = false := by simpa using a_
              clear a_
              go_enter Tryz.func29, Tryz.ntmps29
              go_wp2
              go_ret
              exact ⟨false, rfl, ⟨(fun h => by cases h), fun h => absurd h HNE.out⟩, HB0.out⟩
          · have HNE : Hid (¬ bare (⟨nm, ty, st, ab, pr, lo, .slice ac l.length cc, .slice ah hs.length ch, l, hs⟩ : MV) = bare (⟨nm, ty, st, ab, pr', lo', .slice ac2 l'.length cc2, .slice ah2 hs'.length ch2, l', hs'⟩ : MV)) := hid (fun h => a_ (congrArg MV.pr h))
            have hq : (pr == pr') = false := by simpa using a_
            have hq2 : (pr != pr') = true := by simpa using a_
            clear a_
            go_enter Tryz.func29, Tryz.ntmps29
            go_wp2
            go_ret
            exact ⟨false, rfl, ⟨(fun h => by cases h), fun h => absurd h HNE.out⟩, HB0.out⟩
        · have HNE : Hid (¬ bare (⟨nm, ty, st, ab, pr, lo, .slice ac l.length cc, .slice ah hs.length ch, l, hs⟩ : MV) = bare (⟨nm, ty, st, ab', pr', lo', .slice ac2 l'.length cc2, .slice ah2 hs'.length ch2, l', hs'⟩ : MV)) := hid (fun h => a_ (congrArg MV.ab h))
          have hq : (ab == ab') = false := by simpa using a_
          have hq2 : (ab != ab') = true := by simpa using a_
          clear a_
          go_enter Tryz.func29, Tryz.ntmps29
          go_wp2
          go_ret
          exact ⟨false, rfl, ⟨(fun h => by cases h), fun h => absurd h HNE.out⟩, HB0.out⟩
      · have HNE : Hid (¬ bare (⟨nm, ty, st, ab, pr, lo, .slice ac l.length cc, .slice ah hs.length ch, l, hs⟩ : MV) = bare (⟨nm, ty, st', ab', pr', lo', .slice ac2 l'.length cc2, .slice ah2 hs'.length ch2, l', hs'⟩ : MV)) := hid (fun h => a_ (congrArg MV.st h))
        have hq : (st == st') = false := by simpa using a_
        have hq2 : (st != st') = true := by simpa using a_
        clear a_
        go_enter Tryz.func29, Tryz.ntmps29
        go_wp2
        go_ret
        exact ⟨false, rfl, ⟨(fun h => by cases h), fun h => absurd h HNE.out⟩, HB0.out⟩
    · have HNE : Hid (¬ bare (⟨nm, ty, st, ab, pr, lo, .slice ac l.length cc, .slice ah hs.length ch, l, hs⟩ : MV) = bare (⟨nm, ty', st', ab', pr', lo', .slice ac2 l'.length cc2, .slice ah2 hs'.length ch2, l', hs'⟩ : MV)) := hid (fun h => a_ (congrArg MV.ty h))
      have hq : (ty.toList == ty'.toList) = false := by rw [same_str]; simp [a_]
      have hq2 : (ty.toList != ty'.toList) = true := by rw [bne, hq]; rfl
      clear a_
      go_enter Tryz.func29, Tryz.ntmps29
      go_wp2
      go_ret
      exact ⟨false, rfl, ⟨(fun h => by cases h), fun h => absurd h HNE.out⟩, HB0.out⟩
  · have HNE : Hid (¬ bare (⟨nm, ty, st, ab, pr, lo, .slice ac l.length cc, .slice ah hs.length ch, l, hs⟩ : MV) = bare (⟨nm', ty', st', ab', pr', lo', .slice ac2 l'.length cc2, .slice ah2 hs'.length ch2, l', hs'⟩ : MV)) := hid (fun h => a_ (congrArg MV.nm h))
    have hq : (nm.toList == nm'.toList) = false := by rw [same_str]; simp [a_]
    have hq2 : (nm.toList != nm'.toList) = true := by rw [bne, hq]; rfl
    clear a_
    go_enter Tryz.func29, Tryz.ntmps29
    go_wp2
    go_ret
    exact ⟨false, rfl, ⟨(fun h => by cases h), fun h => absurd h HNE.out⟩, HB0.out⟩
end Go.Proofs.YtnhhaefoilhlhaaGreatDoor.same

/- coffeehousesame.Class: are two classes the same? both ways. Conditions: they are not long. -/
set_option linter.unusedSimpArgs false
set_option linter.unusedVariables false
namespace Go.Proofs.YtnhhaefoilhlhaaGreatDoor.same
open Go.RowKit Go.Proofs.YtnhhaefoilhlhaaGreatDoor.lib Go.Proofs.YtnhhaefoilhlhaaGreatDoor.errs Go.Proofs.YtnhhaefoilhlhaaGreatDoor.names Go.Proofs.YtnhhaefoilhlhaaGreatDoor.descs Go.Proofs.YtnhhaefoilhlhaaGreatDoor.ins Go.Proofs.YtnhhaefoilhlhaaGreatDoor.nums Go.Proofs.YtnhhaefoilhlhaaGreatDoor.flows Go.Proofs.YtnhhaefoilhlhaaGreatDoor.hdls Go.Proofs.YtnhhaefoilhlhaaGreatDoor.classes Go.Proofs.YtnhhaefoilhlhaaGreatDoor.files Go.Proofs.YtnhhaefoilhlhaaGreatDoor.grow

theorem cell_on {u u' : World} {b o : Nat} {v : Value} (hb : Below u.heap.size u u') (h : u.cell? ⟨b, o, none⟩ = some v) : u'.cell? ⟨b, o, none⟩ = some v := (hb.cell (World.block_lt_of_cell? _ _ h)).trans h
theorem take_bare {l m : List MV} {k : Nat} (h1 : k < l.length) (h2 : k < m.length) (ht : (l.take k).map bare = (m.take k).map bare) (h : bare l[k] = bare m[k]) : (l.take (k + 1)).map bare = (m.take (k + 1)).map bare := by
  rw [List.take_succ_eq_append_getElem h1, List.take_succ_eq_append_getElem h2, List.map_append, List.map_append, ht]
  simp [h]
/-- bounds of a class's lists -/
structure FewC (c : CV) : Prop where
  faces : c.faces.length ≤ 1000000000000
  fields : c.fields.length ≤ 1000000000000
  mets : c.mets.length ≤ 1000000000000
  each : ∀ m ∈ c.mets, m.code.length ≤ 1000000000000 ∧ m.hs.length ≤ 1000000000000
theorem few_small {c : CV} (h : SmallC c) : FewC c := ⟨by have := h.flen; omega, by have := h.dlen; omega, by have := h.mlen; omega, fun m hm => ⟨by have := (h.mets m hm).len; omega, by have := (h.mets m hm).hlen; omega⟩⟩

set_option maxRecDepth 100000 in
set_option maxHeartbeats 8000000 in
/-- coffeehousesame.Class -/
theorem class_same (x y : CV) (w : World) (hx : x.At w) (hy : y.At w) (h1 : FewC x) (h2 : FewC y) :
    Calls Tryz.prog 9 #[.agg x.cells.toArray, .agg y.cells.toArray] w (SameBy w (bareC x = bareC y)) := by
  obtain ⟨nm, sup, vf, face, vd, vm, faces, fields, mets⟩ := x
  obtain ⟨nm', sup', vf', face', vd', vm', faces', fields', mets'⟩ := y
  have hf := hx.faces; have hd := hx.fields; have hm := hx.mets
  have hf' := hy.faces; have hd' := hy.fields; have hm' := hy.mets
  have n1 := h1.faces; have n2 := h1.fields; have n3 := h1.mets; have n4 := h1.each
  have n1' := h2.faces; have n2' := h2.fields; have n3' := h2.mets; have n4' := h2.each
  simp only [CV.cells] at hf hd hm hf' hd' hm' n1 n2 n3 n4 n1' n2' n3' n4' ⊢
  obtain ⟨af, cf, rfl⟩ := hf.val
  obtain ⟨ad, cd, rfl⟩ := hd.val
  obtain ⟨am, cm, rfl⟩ := hm.sl.val
  obtain ⟨af', cf', rfl⟩ := hf'.val
  obtain ⟨ad', cd', rfl⟩ := hd'.val
  obtain ⟨am', cm', rfl⟩ := hm'.sl.val
  have HF := hid (fun (u : World) (h : Below w.heap.size w u) => texts_same (.slice af faces.length cf) (.slice af' faces'.length cf') faces faces' u (hf.below h) (hf'.below h) n1 n1')
  have HD := hid hd; have HD' := hid hd'; have HM := hid hm; have HM' := hid hm'; have HN := hid n4; have HN' := hid n4'
  have hg := fld_guard
  obtain ⟨q, hq_⟩ : ∃ q, w.heap.size = q := ⟨_, rfl⟩
  obtain ⟨q2, hq2_⟩ : ∃ x, q + 1 = x := ⟨_, rfl⟩
  obtain ⟨W0, hW0⟩ : ∃ W, (w.alloc (.cells #[.string nm, .string sup, .slice af faces.length cf, .bool face, .slice ad fields.length cd, .slice am mets.length cm] 26)).alloc (.cells #[.string nm', .string sup', .slice af' faces'.length cf', .bool face', .slice ad' fields'.length cd', .slice am' mets'.length cm'] 26) = W := ⟨_, rfl⟩
  have HB0 : Hid (Below w.heap.size w W0) := hid (by subst hW0; exact (ext_alloc w _).alloc (ext_alloc w _).size _)
  have HX : Hid (W0.heap[q]? = some (.cells #[.string nm, .string sup, .slice af faces.length cf, .bool face, .slice ad fields.length cd, .slice am mets.length cm] 26)) := hid (by subst hW0 hq_; exact heap_alloc2_old _ _ _)
  have HY : Hid (W0.heap[q2]? = some (.cells #[.string nm', .string sup', .slice af' faces'.length cf', .bool face', .slice ad' fields'.length cd', .slice am' mets'.length cm'] 26)) := hid (by subst hW0 hq2_ hq_; exact heap_alloc2_new _ _ _)
  have hne : q ≠ q2 := by omega
  have p0 : W0.cell? ⟨q, 0, none⟩ = some (.string nm) := by rw [cell_of_row _ _ _ _ _ _ HX.out]; rfl
  have p1 : W0.cell? ⟨q, 1, none⟩ = some (.string sup) := by rw [cell_of_row _ _ _ _ _ _ HX.out]; rfl
  have p2 : W0.cell? ⟨q, 2, none⟩ = some (.slice af faces.length cf) := by rw [cell_of_row _ _ _ _ _ _ HX.out]; rfl
  have p3 : W0.cell? ⟨q, 3, none⟩ = some (.bool face) := by rw [cell_of_row _ _ _ _ _ _ HX.out]; rfl
  have p4 : W0.cell? ⟨q, 4, none⟩ = some (.slice ad fields.length cd) := by rw [cell_of_row _ _ _ _ _ _ HX.out]; rfl
  have p5 : W0.cell? ⟨q, 5, none⟩ = some (.slice am mets.length cm) := by rw [cell_of_row _ _ _ _ _ _ HX.out]; rfl
  have r0 : W0.cell? ⟨q2, 0, none⟩ = some (.string nm') := by rw [cell_of_row _ _ _ _ _ _ HY.out]; rfl
  have r1 : W0.cell? ⟨q2, 1, none⟩ = some (.string sup') := by rw [cell_of_row _ _ _ _ _ _ HY.out]; rfl
  have r2 : W0.cell? ⟨q2, 2, none⟩ = some (.slice af' faces'.length cf') := by rw [cell_of_row _ _ _ _ _ _ HY.out]; rfl
  have r3 : W0.cell? ⟨q2, 3, none⟩ = some (.bool face') := by rw [cell_of_row _ _ _ _ _ _ HY.out]; rfl
  have r4 : W0.cell? ⟨q2, 4, none⟩ = some (.slice ad' fields'.length cd') := by rw [cell_of_row _ _ _ _ _ _ HY.out]; rfl
  have r5 : W0.cell? ⟨q2, 5, none⟩ = some (.slice am' mets'.length cm') := by rw [cell_of_row _ _ _ _ _ _ HY.out]; rfl
  have HPA := hid (And.intro p4 (And.intro p5 (And.intro r4 r5)))
  clear hf hd hm hf' hd' hm' hx hy n4 n4' h1 h2 HX HY
  by_cases a_ : nm = nm'
  · subst a_
    by_cases a_ : sup = sup'
    · subst a_
      by_cases a_ : face = face'
      · subst a_
        go_enter Tryz.func9, Tryz.ntmps9
        go_wp2_with fail
        refine (HF.out W0 HB0.out).mono ?_
        rintro e w1 ⟨rr, rfl, hr, hb1⟩
        have HRL := hid hr
        have HB1 := hid (HB0.out.trans (hb1.mono HB0.out.size))
        have HB01 := hid hb1
        have p4 := cell_on hb1 HPA.out.1
        have p5 := cell_on hb1 HPA.out.2.1
        have r4 := cell_on hb1 HPA.out.2.2.1
        have r5 := cell_on hb1 HPA.out.2.2.2
        clear hW0 hb1 hr
        cases rr with
        | false =>
          have HNE : Hid (¬ bareC (⟨nm, sup, .slice af faces.length cf, face, .slice ad fields.length cd, .slice am mets.length cm, faces, fields, mets⟩ : CV) = bareC (⟨nm, sup, .slice af' faces'.length cf', face, .slice ad' fields'.length cd', .slice am' mets'.length cm', faces', fields', mets'⟩ : CV)) := hid (fun h => by
            have := HRL.out.2 (congrArg CV.faces h)
            cases this)
          go_wp2
          go_ret
          exact ⟨false, rfl, ⟨(fun h => by cases h), fun h => absurd h HNE.out⟩, HB1.out⟩
        | true =>
          have HFL := hid (HRL.out.1 rfl)
          by_cases hl : fields.length = fields'.length
          · have HFD := hid hl
            have k1 : ((fields.length : Int) != (fields'.length : Int)) = false := by simp [hl]
            clear hl
            by_cases hl2 : mets.length = mets'.length
            · have HME := hid hl2
              have k2 : ((mets.length : Int) != (mets'.length : Int)) = false := by simp [hl2]
              clear hl2
              go_wp2_with fail
              have HNF : Hid (¬ fields = fields' → ¬ bareC (⟨nm, sup, .slice af faces.length cf, face, .slice ad fields.length cd, .slice am mets.length cm, faces, fields, mets⟩ : CV) = bareC (⟨nm, sup, .slice af' faces'.length cf', face, .slice ad' fields'.length cd', .slice am' mets'.length cm', faces', fields', mets'⟩ : CV)) := hid (fun h e => h (congrArg CV.fields e))
              have HNM : Hid (¬ mets.map bare = mets'.map bare → ¬ bareC (⟨nm, sup, .slice af faces.length cf, face, .slice ad fields.length cd, .slice am mets.length cm, faces, fields, mets⟩ : CV) = bareC (⟨nm, sup, .slice af' faces'.length cf', face, .slice ad' fields'.length cd', .slice am' mets'.length cm', faces', fields', mets'⟩ : CV)) := hid (fun h e => h (congrArg CV.mets e))
              have HYE : Hid (fields = fields' → mets.map bare = mets'.map bare → bareC (⟨nm, sup, .slice af faces.length cf, face, .slice ad fields.length cd, .slice am mets.length cm, faces, fields, mets⟩ : CV) = bareC (⟨nm, sup, .slice af' faces'.length cf', face, .slice ad' fields'.length cd', .slice am' mets'.length cm', faces', fields', mets'⟩ : CV)) := hid (fun h1 h2 => by
                have h3 := HFL.out
                unfold bareC
                simp only [h1, h2, h3])
              go_loopw [5] (fun i wr => ∃ k : Nat, k ≤ fields.length ∧ i = .int .i64 k ∧ Hid (Below w1.heap.size w1 wr) ∧ Hid (fields.take k = fields'.take k)) (fun i _ => fields.length - (intOf i).toNat)
              case atStart => exact ⟨0, Nat.zero_le _, rfl, hid (Below.refl _ _), hid rfl⟩
              case round =>
                obtain ⟨k, hk, rfl, HR, HT⟩ := hrel
                have HRW := hid (HB1.out.trans (HR.out.mono HB1.out.size))
                have z4 := cell_on HR.out p4
                have z5 := cell_on HR.out p5
                have y4 := cell_on HR.out r4
                have y5 := cell_on HR.out r5
                by_cases hlt : k < fields.length
                · have hlt2 : k < fields'.length := HFD.out ▸ hlt
                  obtain ⟨b1, o1, e1, hc0, hc1⟩ := fd_at (HD.out.below HRW.out) hlt
                  obtain ⟨b2, o2, e2, hd0, hd1⟩ := fd_at (HD'.out.below HRW.out) hlt2
                  subst e1
                  subst e2
                  have hi : (0 : Int) ≤ (k : Int) := by omega
                  have hkl : (k : Int) < (fields.length : Int) := by omega
                  have hkm : (k : Int) < (fields'.length : Int) := by omega
                  have HXX : Hid (∀ h : fields[k] = fields'[k], fields.take (k + 1) = fields'.take (k + 1)) := hid (fun h => by
                    rw [List.take_succ_eq_append_getElem hlt, List.take_succ_eq_append_getElem hlt2, HT.out, h])
                  have HNX : Hid (fields[k] ≠ fields'[k] → ¬ fields = fields') := hid (fun h e => by subst e; exact h rfl)
                  generalize fields[k] = x at hc0 hc1 HXX HNX
                  generalize fields'[k] = y at hd0 hd1 HXX HNX
                  obtain ⟨a0_, a1_⟩ := x
                  obtain ⟨b0_, b1_⟩ := y
                  have hq := neq_fld a0_ b0_ a1_ b1_
                  obtain ⟨B, hB⟩ : ∃ B, decide (a0_ = b0_ ∧ a1_ = b1_) = B := ⟨_, rfl⟩
                  rw [hB] at hq
                  have HBB : Hid (B = true ↔ a0_ = b0_ ∧ a1_ = b1_) := hid (by rw [← hB]; simp)
                  clear hB hlt2
                  go_wp2_with fail
                  go_quiet (fail)
                  cases B with
                  | true =>
                    obtain ⟨rfl, rfl⟩ := HBB.out.1 rfl
                    go_wp2
                    go_roundw
                    case rel => exact ⟨k + 1, by omega, by go_num, hid (below_drewN HR.out _), hid (by first | exact HXX.out rfl | exact HXX.out trivial)⟩
                    case measure => simp [intOf]; omega
                  | false =>
                    have HNE := hid (HNF.out (HNX.out (fun h => by simp only [classes.Fd.mk.injEq] at h; exact absurd (HBB.out.2 h) (by decide))))
                    go_wp2
                    go_ret
                    exact ⟨false, rfl, ⟨(fun h => by cases h), fun h => absurd h HNE.out⟩, below_drewN HRW.out _⟩
                · have HFE : Hid (fields = fields') := hid (by
                    have := HT.out
                    rwa [List.take_of_length_le (by omega), List.take_of_length_le (by have := HFD.out; omega)] at this)
                  have hge : ¬ (k : Int) < (fields.length : Int) := by omega
                  obtain ⟨W1, hW1⟩ : ∃ W, W = wr := ⟨_, rfl⟩
                  subst hW1
                  have HZ := hid (And.intro z5 y5)
                  clear p4 p5 r4 r5
                  go_wp2_with fail
                  clear z4 y4
                  go_loopw [6] (fun i wr => ∃ k : Nat, k ≤ mets.length ∧ i = .int .i64 k ∧ Hid (Below W1.heap.size W1 wr) ∧ Hid ((mets.take k).map bare = (mets'.take k).map bare)) (fun i _ => mets.length - (intOf i).toNat)
                  case atStart => exact ⟨0, Nat.zero_le _, rfl, hid (Below.refl _ _), hid rfl⟩
                  case round =>
                    obtain ⟨k, hk, rfl, HS, HT2⟩ := hrel
                    have z5 := cell_on HS.out HZ.out.1
                    by_cases hlt : k < mets.length
                    · have hlt2 : k < mets'.length := HME.out ▸ hlt
                      obtain ⟨WD, hWD⟩ : ∃ W, wr.drew = W := ⟨_, rfl⟩
                      have HSD : Hid (Below W1.heap.size W1 WD) := hid (by subst hWD; exact HS.out.drew)
                      have HRD := hid (HRW.out.trans (HSD.out.mono HRW.out.size))
                      have x5 := cell_on HSD.out HZ.out.1
                      have v5 := cell_on HSD.out HZ.out.2
                      have hmA := (HM.out.below HRD.out).at_ _ (List.getElem_mem hlt)
                      have hmB := (HM'.out.below HRD.out).at_ _ (List.getElem_mem hlt2)
                      have hmC := HN.out _ (List.getElem_mem hlt)
                      have hmD := HN'.out _ (List.getElem_mem hlt2)
                      have HMS := hid (method_same mets[k] mets'[k] WD hmA hmB hmC.1 hmC.2 hmD.1 hmD.2)
                      obtain ⟨b1, o1, e1, m0, m1, m2, m3, m4, m5, m6, m7⟩ := met_at (HM.out.below HRD.out) hlt
                      obtain ⟨b2, o2, e2, l0, l1, l2, l3, l4, l5, l6, l7⟩ := met_at (HM'.out.below HRD.out) hlt2
                      subst e1
                      subst e2
                      have hi : (0 : Int) ≤ (k : Int) := by omega
                      have hkl : (k : Int) < (mets.length : Int) := by omega
                      have hkm : (k : Int) < (mets'.length : Int) := by omega
                      have HXX : Hid (∀ h : bare mets[k] = bare mets'[k], (mets.take (k + 1)).map bare = (mets'.take (k + 1)).map bare) := hid (take_bare hlt hlt2 HT2.out)
                      have HNX : Hid (bare mets[k] ≠ bare mets'[k] → ¬ mets.map bare = mets'.map bare) := hid (fun h e => h (by
                        have h1 : (mets.map bare)[k]? = (mets'.map bare)[k]? := by rw [e]
                        rw [List.getElem?_map, List.getElem?_map, List.getElem?_eq_getElem hlt, List.getElem?_eq_getElem hlt2] at h1
                        exact Option.some.inj h1))
                      clear hmA hmB hmC hmD
                      generalize mets[k] = x at m0 m1 m2 m3 m4 m5 m6 m7 HXX HNX HMS
                      generalize mets'[k] = y at l0 l1 l2 l3 l4 l5 l6 l7 HXX HNX HMS
                      obtain ⟨a0_, a1_, a2_, a3_, a4_, a5_, a6_, a7_, a8_, a9_⟩ := x
                      obtain ⟨b0_, b1_, b2_, b3_, b4_, b5_, b6_, b7_, b8_, b9_⟩ := y
                      simp only [MV.cells] at HMS m0 m1 m2 m3 m4 m5 m6 m7 l0 l1 l2 l3 l4 l5 l6 l7
                      clear hlt2
                      go_wp2_with fail
                      refine wp_region_c (fun u => Below WD.heap.size WD u) (by kernel_rfl) ?_
                      show wpAnyC _ _ _ _ _ _ _ _ wr.drew
                      rw [hWD]
                      clear hWD
                      refine c_take 0 _ _ rfl (by kernel_rfl) (by kernel_rfl) (by kernel_rfl) rfl (fun c a' w' h => ⟨(putC_defers _ _ _).symm.trans h.1, h.2⟩) (Below.refl _ _) (fun u hu => by
                        go_simp; rfl) ?_
                      simp only [List.getElem_toArray, List.getElem_cons_zero, List.getElem_cons_succ, Act.put, List.setIfInBounds_toArray, List.set_cons_zero, List.set_cons_succ]
                      refine c_take 1 _ _ rfl (by kernel_rfl) (by kernel_rfl) (by kernel_rfl) rfl (fun c a' w' h => ⟨(putC_defers _ _ _).symm.trans h.1, h.2⟩) (Below.refl _ _) (fun u hu => by
                        have s := cell_on hu x5
                        go_simp; rfl) ?_
                      simp only [List.getElem_toArray, List.getElem_cons_zero, List.getElem_cons_succ, Act.put, List.setIfInBounds_toArray, List.set_cons_zero, List.set_cons_succ]
                      refine c_take 2 _ _ rfl (by kernel_rfl) (by kernel_rfl) (by kernel_rfl) rfl (fun c a' w' h => ⟨(putC_defers _ _ _).symm.trans h.1, h.2⟩) (Below.refl _ _) (fun u hu => by
                        go_simp; rfl) ?_
                      simp only [List.getElem_toArray, List.getElem_cons_zero, List.getElem_cons_succ, Act.put, List.setIfInBounds_toArray, List.set_cons_zero, List.set_cons_succ]
                      refine c_take 3 _ _ rfl (by kernel_rfl) (by kernel_rfl) (by kernel_rfl) rfl (fun c a' w' h => ⟨(putC_defers _ _ _).symm.trans h.1, h.2⟩) (Below.refl _ _) (fun u hu => by
                        go_simp; rfl) ?_
                      simp only [List.getElem_toArray, List.getElem_cons_zero, List.getElem_cons_succ, Act.put, List.setIfInBounds_toArray, List.set_cons_zero, List.set_cons_succ]
                      refine c_take 4 _ _ rfl (by kernel_rfl) (by kernel_rfl) (by kernel_rfl) rfl (fun c a' w' h => ⟨(putC_defers _ _ _).symm.trans h.1, h.2⟩) (Below.refl _ _) (fun u hu => by
                        have s0 := cell_on hu m0
                        have s1 := cell_on hu m1
                        have s2 := cell_on hu m2
                        have s3 := cell_on hu m3
                        have s4 := cell_on hu m4
                        have s5 := cell_on hu m5
                        have s6 := cell_on hu m6
                        have s7 := cell_on hu m7
                        go_simp; rfl) ?_
                      simp only [List.getElem_toArray, List.getElem_cons_zero, List.getElem_cons_succ, Act.put, List.setIfInBounds_toArray, List.set_cons_zero, List.set_cons_succ]
                      refine c_take 5 _ _ rfl (by kernel_rfl) (by kernel_rfl) (by kernel_rfl) rfl (fun c a' w' h => ⟨(putC_defers _ _ _).symm.trans h.1, h.2⟩) (Below.refl _ _) (fun u hu => by
                        go_simp; rfl) ?_
                      simp only [List.getElem_toArray, List.getElem_cons_zero, List.getElem_cons_succ, Act.put, List.setIfInBounds_toArray, List.set_cons_zero, List.set_cons_succ]
                      refine c_take 6 _ _ rfl (by kernel_rfl) (by kernel_rfl) (by kernel_rfl) rfl (fun c a' w' h => ⟨(putC_defers _ _ _).symm.trans h.1, h.2⟩) (Below.refl _ _) (fun u hu => by
                        have s := cell_on hu v5
                        go_simp; rfl) ?_
                      simp only [List.getElem_toArray, List.getElem_cons_zero, List.getElem_cons_succ, Act.put, List.setIfInBounds_toArray, List.set_cons_zero, List.set_cons_succ]
                      refine c_take 7 _ _ rfl (by kernel_rfl) (by kernel_rfl) (by kernel_rfl) rfl (fun c a' w' h => ⟨(putC_defers _ _ _).symm.trans h.1, h.2⟩) (Below.refl _ _) (fun u hu => by
                        go_simp; rfl) ?_
                      simp only [List.getElem_toArray, List.getElem_cons_zero, List.getElem_cons_succ, Act.put, List.setIfInBounds_toArray, List.set_cons_zero, List.set_cons_succ]
                      refine c_take 8 _ _ rfl (by kernel_rfl) (by kernel_rfl) (by kernel_rfl) rfl (fun c a' w' h => ⟨(putC_defers _ _ _).symm.trans h.1, h.2⟩) (Below.refl _ _) (fun u hu => by
                        go_simp; rfl) ?_
                      simp only [List.getElem_toArray, List.getElem_cons_zero, List.getElem_cons_succ, Act.put, List.setIfInBounds_toArray, List.set_cons_zero, List.set_cons_succ]
                      refine c_take 9 _ _ rfl (by kernel_rfl) (by kernel_rfl) (by kernel_rfl) rfl (fun c a' w' h => ⟨(putC_defers _ _ _).symm.trans h.1, h.2⟩) (Below.refl _ _) (fun u hu => by
                        have t0 := cell_on hu l0
                        have t1 := cell_on hu l1
                        have t2 := cell_on hu l2
                        have t3 := cell_on hu l3
                        have t4 := cell_on hu l4
                        have t5 := cell_on hu l5
                        have t6 := cell_on hu l6
                        have t7 := cell_on hu l7
                        go_simp; rfl) ?_
                      simp only [List.getElem_toArray, List.getElem_cons_zero, List.getElem_cons_succ, Act.put, List.setIfInBounds_toArray, List.set_cons_zero, List.set_cons_succ]
                      refine c_only 10 _ rfl (by kernel_rfl) ?_
                      go_simp
                      refine HMS.out.mono ?_
                      rintro e w2 ⟨r, rfl, hr, hb2⟩
                      have HB2 := hid (HRD.out.trans (hb2.mono HRD.out.size))
                      have HC2 := hid (HSD.out.trans (hb2.mono HSD.out.size))
                      have HR2 := hid hr
                      refine ⟨hb2, ?_⟩
                      try simp only [List.getElem_toArray, List.getElem_cons_zero, List.getElem_cons_succ, Act.put, List.setIfInBounds_toArray, List.set_cons_zero, List.set_cons_succ]
                      refine c_take 11 _ _ rfl (by kernel_rfl) (by kernel_rfl) (by kernel_rfl) rfl (fun c a' w' h => ⟨(putC_defers _ _ _).symm.trans h.1, h.2⟩) hb2 (fun u hu => by
                        go_simp; rfl) ?_
                      simp only [List.getElem_toArray, List.getElem_cons_zero, List.getElem_cons_succ, Act.put, List.setIfInBounds_toArray, List.set_cons_zero, List.set_cons_succ]
                      refine c_end (by kernel_rfl) ?_
                      clear hb2 hr m0 m1 m2 m3 m4 m5 m6 m7 l0 l1 l2 l3 l4 l5 l6 l7 x5 v5 z5
                      cases r with
                      | true =>
                        go_wp2
                        go_roundw
                        case rel => exact ⟨k + 1, by omega, by go_num, HC2, hid (HXX.out (HR2.out.1 rfl))⟩
                        case measure => simp [intOf]; omega
                      | false =>
                        have HNE := hid (HNM.out (HNX.out (fun h => by have := HR2.out.2 h; cases this)))
                        go_wp2
                        go_ret
                        exact ⟨false, rfl, ⟨(fun h => by cases h), fun h => absurd h HNE.out⟩, HB2.out⟩
                    · have HMM : Hid (mets.map bare = mets'.map bare) := hid (by
                        have := HT2.out
                        rwa [List.take_of_length_le (by omega), List.take_of_length_le (by have := HME.out; omega)] at this)
                      have hge : ¬ (k : Int) < (mets.length : Int) := by omega
                      have HYY := hid (HYE.out HFE.out HMM.out)
                      go_wp2
                      go_ret
                      exact ⟨true, rfl, ⟨fun _ => HYY.out, fun _ => rfl⟩, HRW.out.trans (HS.out.mono HRW.out.size)⟩
            · have k2 : ((mets.length : Int) != (mets'.length : Int)) = true := by rw [bne_iff_ne]; omega
              have HNE : Hid (¬ bareC (⟨nm, sup, .slice af faces.length cf, face, .slice ad fields.length cd, .slice am mets.length cm, faces, fields, mets⟩ : CV) = bareC (⟨nm, sup, .slice af' faces'.length cf', face, .slice ad' fields'.length cd', .slice am' mets'.length cm', faces', fields', mets'⟩ : CV)) := hid (fun h => by
                have := congrArg (fun c : CV => c.mets.length) h
                simp only [bareC, List.length_map] at this
                exact hl2 this)
              clear hl2
              go_wp2
              go_ret
              exact ⟨false, rfl, ⟨(fun h => by cases h), fun h => absurd h HNE.out⟩, HB1.out⟩
          · have k1 : ((fields.length : Int) != (fields'.length : Int)) = true := by rw [bne_iff_ne]; omega
            have HNE : Hid (¬ bareC (⟨nm, sup, .slice af faces.length cf, face, .slice ad fields.length cd, .slice am mets.length cm, faces, fields, mets⟩ : CV) = bareC (⟨nm, sup, .slice af' faces'.length cf', face, .slice ad' fields'.length cd', .slice am' mets'.length cm', faces', fields', mets'⟩ : CV)) := hid (fun h => hl (congrArg (fun c : CV => c.fields.length) h))
            clear hl
            go_wp2
            go_ret
            exact ⟨false, rfl, ⟨(fun h => by cases h), fun h => absurd h HNE.out⟩, HB1.out⟩
      · have HNE : Hid (¬ bareC (⟨nm, sup, .slice af faces.length cf, face, .slice ad fields.length cd, .slice am mets.length cm, faces, fields, mets⟩ : CV) = bareC (⟨nm, sup, .slice af' faces'.length cf', face', .slice ad' fields'.length cd', .slice am' mets'.length cm', faces', fields', mets'⟩ : CV)) := hid (fun h => a_ (congrArg CV.face h))
        have hq : (face == face') = false := by simpa using a_
        have hq2 : (face != face') = true := by simpa using a_
        clear a_
        go_enter Tryz.func9, Tryz.ntmps9
        go_wp2
        go_ret
        exact ⟨false, rfl, ⟨(fun h => by cases h), fun h => absurd h HNE.out⟩, HB0.out⟩
    · have HNE : Hid (¬ bareC (⟨nm, sup, .slice af faces.length cf, face, .slice ad fields.length cd, .slice am mets.length cm, faces, fields, mets⟩ : CV) = bareC (⟨nm, sup', .slice af' faces'.length cf', face', .slice ad' fields'.length cd', .slice am' mets'.length cm', faces', fields', mets'⟩ : CV)) := hid (fun h => a_ (congrArg CV.sup h))
      have hq : (sup.toList == sup'.toList) = false := by rw [same_str]; simp [a_]
      have hq2 : (sup.toList != sup'.toList) = true := by rw [bne, hq]; rfl
      clear a_
      go_enter Tryz.func9, Tryz.ntmps9
      go_wp2
      go_ret
      exact ⟨false, rfl, ⟨(fun h => by cases h), fun h => absurd h HNE.out⟩, HB0.out⟩
  · have HNE : Hid (¬ bareC (⟨nm, sup, .slice af faces.length cf, face, .slice ad fields.length cd, .slice am mets.length cm, faces, fields, mets⟩ : CV) = bareC (⟨nm', sup', .slice af' faces'.length cf', face', .slice ad' fields'.length cd', .slice am' mets'.length cm', faces', fields', mets'⟩ : CV)) := hid (fun h => a_ (congrArg CV.nm h))
    have hq : (nm.toList == nm'.toList) = false := by rw [same_str]; simp [a_]
    have hq2 : (nm.toList != nm'.toList) = true := by rw [bne, hq]; rfl
    clear a_
    go_enter Tryz.func9, Tryz.ntmps9
    go_wp2
    go_ret
    exact ⟨false, rfl, ⟨(fun h => by cases h), fun h => absurd h HNE.out⟩, HB0.out⟩

end Go.Proofs.YtnhhaefoilhlhaaGreatDoor.same
