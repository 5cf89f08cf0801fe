/- ins.Parse at the text "push -7 I": coffeehouselaw1.pushed; an instruction is equal to itself. Conditions: as ins.Parse. -/
import Derived.Test.YtcbefaaipggakaaDoorPrs2
import Derived.Laws.StructEq
set_option linter.unusedSimpArgs false
set_option linter.unusedVariables false
namespace Go.Proofs.YtcbefaaipggakaaDoor.txts
open Go.RowKit Go.Proofs.YtcbefaaipggakaaDoor.lib Go.Proofs.YtcbefaaipggakaaDoor.errs Go.Proofs.YtcbefaaipggakaaDoor.names Go.Proofs.YtcbefaaipggakaaDoor.descs Go.Proofs.YtcbefaaipggakaaDoor.ins Go.Proofs.YtcbefaaipggakaaDoor.nums Go.Proofs.YtcbefaaipggakaaDoor.flows Go.Proofs.YtcbefaaipggakaaDoor.grow

theorem ins_fields : Tryd.prog.underlying 36 = some (.struct (Tryd.prog.fieldsOf 36)) := by kernel_rfl
theorem ins_stood : Tryd.prog.stoodInHeld 36 = false := by kernel_rfl
theorem ins_guard : Tryd.prog.eqGuardType Tryd.prog.depth 36 = false := by kernel_rfl
theorem ins_len : (Tryd.prog.fieldsOf 36).toList.length = 6 := by kernel_rfl
theorem ins_names : (Tryd.prog.fieldsOf 36).toList.map (fun f => (f.type, f.offset, decide (f.name ≠ "_"))) = [(3, 0, true), (3, 1, true), (3, 2, true), (9, 3, true), (9, 4, true), (9, 5, true)] := by kernel_rfl

theorem part_int (w : World) (cs : Array Value) (off : Nat) (v : Value) (h : cs[off]? = some v) : (part 3 cs off).run Tryd.prog w = .ok v w := by
  simp [part, h, Result.andThen]
theorem part_str (w : World) (cs : Array Value) (off : Nat) (v : Value) (h : cs[off]? = some v) : (part 9 cs off).run Tryd.prog w = .ok v w := by
  simp [part, h, Result.andThen]

theorem eq_same (d : Nat) (op a b : Int) (t c n : ByteArray) (w : World) : (Op.equalIn (d + 2) 36 (.agg #[.int .i64 op, .int .i64 a, .int .i64 b, .string t, .string c, .string n]) (.agg #[.int .i64 op, .int .i64 a, .int .i64 b, .string t, .string c, .string n])).run Tryd.prog w = .ok true w := by
  rw [run_equalIn_agg w _ _ _ _ ins_fields ins_stood]
  have hn := ins_names
  have hl := ins_len
  generalize (Tryd.prog.fieldsOf 36).toList = fs at hn hl
  match fs, hl with
  | [f0, f1, f2, f3, f4, f5], _ =>
    simp only [List.map_cons, List.map_nil, List.cons.injEq, Prod.mk.injEq, decide_eq_true_eq, and_true] at hn
    obtain ⟨⟨t0, o0, n0⟩, ⟨t1, o1, n1⟩, ⟨t2, o2, n2⟩, ⟨t3, o3, n3⟩, ⟨t4, o4, n4⟩, t5, o5, n5⟩ := hn
    have ui := Tryd.underlying3
    have us := Tryd.underlying9
    simp only [Op.eqFields, n0, n1, n2, n3, n4, n5, t0, t1, t2, t3, t4, t5, o0, o1, o2, o3, o4, o5, ne_eq, not_false_eq_true, if_true, Sem.run_bind]
    have p0 := part_int w #[.int .i64 op, .int .i64 a, .int .i64 b, .string t, .string c, .string n] 0 (.int .i64 op) rfl
    have p1 := part_int w #[.int .i64 op, .int .i64 a, .int .i64 b, .string t, .string c, .string n] 1 (.int .i64 a) rfl
    have p2 := part_int w #[.int .i64 op, .int .i64 a, .int .i64 b, .string t, .string c, .string n] 2 (.int .i64 b) rfl
    have p3 := part_str w #[.int .i64 op, .int .i64 a, .int .i64 b, .string t, .string c, .string n] 3 (.string t) rfl
    have p4 := part_str w #[.int .i64 op, .int .i64 a, .int .i64 b, .string t, .string c, .string n] 4 (.string c) rfl
    have p5 := part_str w #[.int .i64 op, .int .i64 a, .int .i64 b, .string t, .string c, .string n] 5 (.string n) rfl
    have e0 := run_equalIn_int w d _ .i64 _ op op ui
    have e1 := run_equalIn_int w d _ .i64 _ a a ui
    have e2 := run_equalIn_int w d _ .i64 _ b b ui
    have e3 := run_equalIn_string w d _ t t us
    have e4 := run_equalIn_string w d _ c c us
    have e5 := run_equalIn_string w d _ n n us
    simp [p0, p1, p2, p3, p4, p5, e0, e1, e2, e3, e4, e5, Result.andThen]
theorem neq_same (op a b : Int) (t c n : ByteArray) (w : World) : (binOp .neq 36 (.agg #[.int .i64 op, .int .i64 a, .int .i64 b, .string t, .string c, .string n]) (.agg #[.int .i64 op, .int .i64 a, .int .i64 b, .string t, .string c, .string n])).run Tryd.prog w = .ok (.bool false) w := by
  rw [run_neq_struct, eq_same 9998]; rfl
theorem eql_same (op a b : Int) (t c n : ByteArray) (w : World) : (binOp .eql 36 (.agg #[.int .i64 op, .int .i64 a, .int .i64 b, .string t, .string c, .string n]) (.agg #[.int .i64 op, .int .i64 a, .int .i64 b, .string t, .string c, .string n])).run Tryd.prog w = .ok (.bool true) w := by
  rw [run_eql_struct, eq_same 9998]; rfl

theorem push_reads : parseW [112, 117, 115, 104, 32, 45, 55, 32, 73] = some ⟨2, -7, 0, bs [73], bs [], bs []⟩ := by kernel_rfl

end Go.Proofs.YtcbefaaipggakaaDoor.txts
