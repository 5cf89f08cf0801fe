/- ins.Parse at the text "push -7 I": coffeehouselaw1.pushed; an instruction is equal to itself. Conditions: as ins.Parse. -/
import Derived.Test.YtogpgfaojmmemaaDoorPrs2
import Derived.Laws.StructEq
set_option linter.unusedSimpArgs false
set_option linter.unusedVariables false
namespace Go.Proofs.YtogpgfaojmmemaaDoor.txts
open Go.RowKit Go.Proofs.YtogpgfaojmmemaaDoor.lib Go.Proofs.YtogpgfaojmmemaaDoor.errs Go.Proofs.YtogpgfaojmmemaaDoor.names Go.Proofs.YtogpgfaojmmemaaDoor.descs Go.Proofs.YtogpgfaojmmemaaDoor.ins Go.Proofs.YtogpgfaojmmemaaDoor.nums Go.Proofs.YtogpgfaojmmemaaDoor.flows Go.Proofs.YtogpgfaojmmemaaDoor.grow

theorem ins_fields : Tryd.prog.underlying 45 = some (.struct (Tryd.prog.fieldsOf 45)) := by kernel_rfl
theorem ins_stood : Tryd.prog.stoodInHeld 45 = false := by kernel_rfl
theorem ins_guard : Tryd.prog.eqGuardType Tryd.prog.depth 45 = false := by kernel_rfl
theorem ins_len : (Tryd.prog.fieldsOf 45).toList.length = 6 := by kernel_rfl
theorem ins_names : (Tryd.prog.fieldsOf 45).toList.map (fun f => (f.type, f.offset, decide (f.name ≠ "_"))) = [(3, 0, true), (3, 1, true), (3, 2, true), (9, 3, true), (9, 4, true), (9, 5, true)] := by kernel_rfl

theorem part_int (w : World) (cs : Array Value) (off : Nat) (v : Value) (h : cs[off]? = some v) : (part 3 cs off).run Tryd.prog w = .ok v w := by
  simp [part, h, Result.andThen]
theorem part_str (w : World) (cs : Array Value) (off : Nat) (v : Value) (h : cs[off]? = some v) : (part 9 cs off).run Tryd.prog w = .ok v w := by
  simp [part, h, Result.andThen]

theorem eq_same (d : Nat) (op a b : Int) (t c n : ByteArray) (w : World) : (Op.equalIn (d + 2) 45 (.agg #[.int .i64 op, .int .i64 a, .int .i64 b, .string t, .string c, .string n]) (.agg #[.int .i64 op, .int .i64 a, .int .i64 b, .string t, .string c, .string n])).run Tryd.prog w = .ok true w := by
  rw [run_equalIn_agg w _ _ _ _ ins_fields ins_stood]
  have hn := ins_names
  have hl := ins_len
  generalize (Tryd.prog.fieldsOf 45).toList = fs at hn hl
  match fs, hl with
  | [f0, f1, f2, f3, f4, f5], _ =>
    simp only [List.map_cons, List.map_nil, List.cons.injEq, Prod.mk.injEq, decide_eq_true_eq, and_true] at hn
    obtain ⟨⟨t0, o0, n0⟩, ⟨t1, o1, n1⟩, ⟨t2, o2, n2⟩, ⟨t3, o3, n3⟩, ⟨t4, o4, n4⟩, t5, o5, n5⟩ := hn
    have ui := Tryd.underlying3
    have us := Tryd.underlying9
    simp only [Op.eqFields, n0, n1, n2, n3, n4, n5, t0, t1, t2, t3, t4, t5, o0, o1, o2, o3, o4, o5, ne_eq, not_false_eq_true, if_true, Sem.run_bind]
    have p0 := part_int w #[.int .i64 op, .int .i64 a, .int .i64 b, .string t, .string c, .string n] 0 (.int .i64 op) rfl
    have p1 := part_int w #[.int .i64 op, .int .i64 a, .int .i64 b, .string t, .string c, .string n] 1 (.int .i64 a) rfl
    have p2 := part_int w #[.int .i64 op, .int .i64 a, .int .i64 b, .string t, .string c, .string n] 2 (.int .i64 b) rfl
    have p3 := part_str w #[.int .i64 op, .int .i64 a, .int .i64 b, .string t, .string c, .string n] 3 (.string t) rfl
    have p4 := part_str w #[.int .i64 op, .int .i64 a, .int .i64 b, .string t, .string c, .string n] 4 (.string c) rfl
    have p5 := part_str w #[.int .i64 op, .int .i64 a, .int .i64 b, .string t, .string c, .string n] 5 (.string n) rfl
    have e0 := run_equalIn_int w d _ .i64 _ op op ui
    have e1 := run_equalIn_int w d _ .i64 _ a a ui
    have e2 := run_equalIn_int w d _ .i64 _ b b ui
    have e3 := run_equalIn_string w d _ t t us
    have e4 := run_equalIn_string w d _ c c us
    have e5 := run_equalIn_string w d _ n n us
    simp [p0, p1, p2, p3, p4, p5, e0, e1, e2, e3, e4, e5, Result.andThen]
theorem neq_same (op a b : Int) (t c n : ByteArray) (w : World) : (binOp .neq 45 (.agg #[.int .i64 op, .int .i64 a, .int .i64 b, .string t, .string c, .string n]) (.agg #[.int .i64 op, .int .i64 a, .int .i64 b, .string t, .string c, .string n])).run Tryd.prog w = .ok (.bool false) w := by
  rw [run_neq_struct, eq_same 9998]; rfl
theorem eql_same (op a b : Int) (t c n : ByteArray) (w : World) : (binOp .eql 45 (.agg #[.int .i64 op, .int .i64 a, .int .i64 b, .string t, .string c, .string n]) (.agg #[.int .i64 op, .int .i64 a, .int .i64 b, .string t, .string c, .string n])).run Tryd.prog w = .ok (.bool true) w := by
  rw [run_eql_struct, eq_same 9998]; rfl

theorem push_reads : parseW [112, 117, 115, 104, 32, 45, 55, 32, 73] = some ⟨2, -7, 0, bs [73], bs [], bs []⟩ := by kernel_rfl

set_option maxRecDepth 100000 in
set_option maxHeartbeats 2000000 in
theorem pushed_any (w : World) (hv : Vars w) : Calls Tryd.prog 18 #[] w fun e w' => e = .returned (.bool true) ∧ Below w.heap.size w w' := by
  have HV := hid hv
  clear hv
  go_enter Tryd.func18, Tryd.ntmps18
  go_wp2_with fail
  refine (parse_any { data := #[112, 117, 115, 104, 32, 45, 55, 32, 73] } w HV.out (by decide)).mono ?_
  rintro e w1 ⟨hb1, he⟩
  rw [show parseW _ = some (⟨2, -7, 0, bs [73], bs [], bs []⟩ : I) from push_reads] at he
  obtain rfl : e = .returned (.tuple #[.agg #[.int .i64 2, .int .i64 (-7), .int .i64 0, .string { data := #[73] }, .string { data := #[] }, .string { data := #[] }], .nilIface]) := he
  have HB1 := hid hb1
  have hg := ins_guard
  have hq := eql_same 2 (-7) 0 { data := #[73] } { data := #[] } { data := #[] }
  clear hb1
  go_wp2
  go_ret
  exact ⟨rfl, HB1.out.trans ((ext_alloc _ _).mono HB1.out.size)⟩
end Go.Proofs.YtogpgfaojmmemaaDoor.txts
