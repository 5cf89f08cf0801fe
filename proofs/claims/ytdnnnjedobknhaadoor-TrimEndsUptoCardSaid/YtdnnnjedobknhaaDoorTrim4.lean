/- What is never done: trim.Code; coffeehousesame.Code of one list twice. Conditions as for flow.Check. -/
import Derived.Test.YtdnnnjedobknhaaDoorTrim3
import Derived.Laws.StructEq
import Derived.BigQuiet
namespace Go.Proofs.YtdnnnjedobknhaaDoor.trims
open Go.RowKit Go.Proofs.YtdnnnjedobknhaaDoor.lib Go.Proofs.YtdnnnjedobknhaaDoor.errs Go.Proofs.YtdnnnjedobknhaaDoor.names Go.Proofs.YtdnnnjedobknhaaDoor.descs Go.Proofs.YtdnnnjedobknhaaDoor.ins Go.Proofs.YtdnnnjedobknhaaDoor.reach Go.Proofs.YtdnnnjedobknhaaDoor.flows

theorem ins_fields : Tryd.prog.underlying 53 = some (.struct (Tryd.prog.fieldsOf 53)) := by kernel_rfl
theorem ins_stood : Tryd.prog.stoodInHeld 53 = false := by kernel_rfl
theorem ins_guard : Tryd.prog.eqGuardType Tryd.prog.depth 53 = false := by kernel_rfl
theorem ins_len : (Tryd.prog.fieldsOf 53).toList.length = 6 := by kernel_rfl
theorem ins_names : (Tryd.prog.fieldsOf 53).toList.map (fun f => (f.type, f.offset, decide (f.name ≠ "_"))) = [(3, 0, true), (3, 1, true), (3, 2, true), (9, 3, true), (9, 4, true), (9, 5, true)] := by kernel_rfl

theorem part_int (w : World) (cs : Array Value) (off : Nat) (v : Value) (h : cs[off]? = some v) : (part 3 cs off).run Tryd.prog w = .ok v w := by
  simp [part, h, Result.andThen]
theorem part_str (w : World) (cs : Array Value) (off : Nat) (v : Value) (h : cs[off]? = some v) : (part 9 cs off).run Tryd.prog w = .ok v w := by
  simp [part, h, Result.andThen]

theorem eq_same (d : Nat) (op a b : Int) (t c n : ByteArray) (w : World) : (Op.equalIn (d + 2) 53 (.agg #[.int .i64 op, .int .i64 a, .int .i64 b, .string t, .string c, .string n]) (.agg #[.int .i64 op, .int .i64 a, .int .i64 b, .string t, .string c, .string n])).run Tryd.prog w = .ok true w := by
  rw [run_equalIn_agg w _ _ _ _ ins_fields ins_stood]
  have hn := ins_names
  have hl := ins_len
  generalize (Tryd.prog.fieldsOf 53).toList = fs at hn hl
  match fs, hl with
  | [f0, f1, f2, f3, f4, f5], _ =>
    simp only [List.map_cons, List.map_nil, List.cons.injEq, Prod.mk.injEq, decide_eq_true_eq, and_true] at hn
    obtain ⟨⟨t0, o0, n0⟩, ⟨t1, o1, n1⟩, ⟨t2, o2, n2⟩, ⟨t3, o3, n3⟩, ⟨t4, o4, n4⟩, t5, o5, n5⟩ := hn
    have ui := Tryd.underlying3
    have us := Tryd.underlying9
    simp only [Op.eqFields, n0, n1, n2, n3, n4, n5, t0, t1, t2, t3, t4, t5, o0, o1, o2, o3, o4, o5, ne_eq, not_false_eq_true, if_true, Sem.run_bind]
    have p0 := part_int w #[.int .i64 op, .int .i64 a, .int .i64 b, .string t, .string c, .string n] 0 (.int .i64 op) rfl
    have p1 := part_int w #[.int .i64 op, .int .i64 a, .int .i64 b, .string t, .string c, .string n] 1 (.int .i64 a) rfl
    have p2 := part_int w #[.int .i64 op, .int .i64 a, .int .i64 b, .string t, .string c, .string n] 2 (.int .i64 b) rfl
    have p3 := part_str w #[.int .i64 op, .int .i64 a, .int .i64 b, .string t, .string c, .string n] 3 (.string t) rfl
    have p4 := part_str w #[.int .i64 op, .int .i64 a, .int .i64 b, .string t, .string c, .string n] 4 (.string c) rfl
    have p5 := part_str w #[.int .i64 op, .int .i64 a, .int .i64 b, .string t, .string c, .string n] 5 (.string n) rfl
    have e0 := run_equalIn_int w d _ .i64 _ op op ui
    have e1 := run_equalIn_int w d _ .i64 _ a a ui
    have e2 := run_equalIn_int w d _ .i64 _ b b ui
    have e3 := run_equalIn_string w d _ t t us
    have e4 := run_equalIn_string w d _ c c us
    have e5 := run_equalIn_string w d _ n n us
    simp [p0, p1, p2, p3, p4, p5, e0, e1, e2, e3, e4, e5, Result.andThen]
theorem neq_same (op a b : Int) (t c n : ByteArray) (w : World) : (binOp .neq 53 (.agg #[.int .i64 op, .int .i64 a, .int .i64 b, .string t, .string c, .string n]) (.agg #[.int .i64 op, .int .i64 a, .int .i64 b, .string t, .string c, .string n])).run Tryd.prog w = .ok (.bool false) w := by
  rw [run_neq_struct, eq_same 9998]; rfl

set_option maxRecDepth 100000 in
set_option maxHeartbeats 2000000 in
/-- coffeehousesame.Code of two lists that read alike -/
theorem scode_same (va vb : Value) (l : List I) (w : World) (ha : Go.Proofs.YtdnnnjedobknhaaDoor.flows.Code w va l) (hb : Go.Proofs.YtdnnnjedobknhaaDoor.flows.Code w vb l) (hn : l.length ≤ 1000000000000) :
    Calls Tryd.prog 32 #[va, vb] w fun e w' => e = .returned (.bool true) ∧ Below w.heap.size w w' := by
  obtain ⟨a, c, rfl⟩ := ha.val
  obtain ⟨b, d, rfl⟩ := hb.val
  have HA := hid ha; have HB := hid hb
  have hg := ins_guard
  clear ha hb
  go_enter Tryd.func32, Tryd.ntmps32
  go_wp2_with fail
  go_loopw [5] (fun i wr => ∃ k : Nat, k ≤ l.length ∧ i = .int .i64 k ∧ Hid (Below w.heap.size w wr)) (fun i _ => l.length - (intOf i).toNat)
  case atStart => exact ⟨0, Nat.zero_le _, rfl, hid (Below.refl _ _)⟩
  case round =>
    obtain ⟨k, hk, rfl, HR⟩ := hrel
    by_cases hlt : k < l.length
    · obtain ⟨b1, o1, h1, hc0, hc1, hc2, hc3, hc4, hc5⟩ := code_at (HA.out.below HR.out) hlt
      obtain ⟨b2, o2, h2, hd0, hd1, hd2, hd3, hd4, hd5⟩ := code_at (HB.out.below HR.out) hlt
      subst h1
      subst h2
      have hi : (0 : Int) ≤ (k : Int) := by omega
      have hkl : (k : Int) < (l.length : Int) := by omega
      generalize l[k] = x at hc0 hc1 hc2 hc3 hc4 hc5 hd0 hd1 hd2 hd3 hd4 hd5
      obtain ⟨op, xa, xb, t, xc, xn⟩ := x
      have hq := neq_same op xa xb t xc xn
      go_wp2_with fail
      go_quiet (fail)
      go_wp2
      go_roundw
      case rel => exact ⟨k + 1, by omega, by go_num, hid (below_drewN HR.out _)⟩
      case measure => simp [intOf]; omega
    · go_wp2
      go_ret
      exact ⟨rfl, HR.out⟩

/-- what trim.Code answers -/
def CodeBy (w : World) (l : List I) (e : Ending) (w' : World) : Prop :=
  if codeFault l = 0 then ∃ v, e = .returned (.tuple #[v, .nilIface]) ∧ Out w w' 53 6 v (trimOf l (seenOf l)).length (cellsOf (trimOf l (seenOf l)))
  else e = .returned (.tuple #[.slice none 0 0, .iface 34 (.int .i64 (codeFault l))]) ∧ Below w.heap.size w w'
theorem codeBy_bad {w w' : World} {l : List I} {e : Ending} (h : ¬ codeFault l = 0) (hr : CodeBy w l e w') : e = .returned (.tuple #[.slice none 0 0, .iface 34 (.int .i64 (codeFault l))]) ∧ Below w.heap.size w w' := by
  unfold CodeBy at hr; rwa [if_neg h] at hr
theorem codeBy_good {w w' : World} {l : List I} {e : Ending} (h : codeFault l = 0) (hr : CodeBy w l e w') : ∃ v, e = .returned (.tuple #[v, .nilIface]) ∧ Out w w' 53 6 v (trimOf l (seenOf l)).length (cellsOf (trimOf l (seenOf l))) := by
  unfold CodeBy at hr; rwa [if_pos h] at hr

set_option maxRecDepth 100000 in
set_option maxHeartbeats 2000000 in
theorem tcode_any (va : Value) (l : List I) (w : World) (ha : Go.Proofs.YtdnnnjedobknhaaDoor.flows.Code w va l) (hf : FormsAt w) (hs : ∀ x ∈ l, Small x) (hn : l.length ≤ 2000000) :
    Calls Tryd.prog 31 #[va] w (CodeBy w l) := by
  have HC := hid (fcheck_any va l w ha hf hs (by omega))
  obtain ⟨a, c, rfl⟩ := ha.val
  have HA := hid ha
  clear ha hf hs
  by_cases h0 : codeFault l = 0
  · have HZ := hid h0
    have HE : Hid (errVal (codeFault l) = .nilIface) := hid (errVal_zero h0)
    obtain ⟨hR, hl0, hl40⟩ := right_of h0
    have HR := hid hR
    have HJ : Hid (∀ x ∈ l, jumpsOp x.op = true → 0 ≤ x.a ∧ x.a ≤ (l.length : Int)) := hid (fun x hx hj => by
      obtain ⟨i, hi, rfl⟩ := List.mem_iff_getElem.1 hx
      have h1 := jump_ge ((all_ok h0).1 _ hx) hj
      refine ⟨h1, ?_⟩
      by_cases hc : l[i].op = 14 ∨ l[i].a ≠ (i : Int) + 1
      · have := hR i hi l[i].a (by unfold afterOf; exact List.mem_append_right _ (by rw [if_pos ⟨hj, hc⟩]; exact List.mem_singleton.2 rfl))
        omega
      · have : l[i].a = (i : Int) + 1 := Classical.not_not.1 (fun e => hc (.inr e))
        omega)
    have HLS : Hid ((seenOf l).length = l.length) := hid (reached_len (succ_lt hR))
    clear h0 hR
    go_enter Tryd.func31, Tryd.ntmps31
    go_wp2_with fail
    refine HC.out.mono ?_
    rintro e w1 ⟨rfl, hb1⟩
    rw [HE.out]
    have HB1 := hid hb1
    have HL := hid (Sl.lit w1 #[.int .i64 0] 3 1 1 rfl)
    have HBL := hid (hb1.alloc hb1.size (.cells #[.int .i64 0] 3))
    clear hb1
    go_wp2_with fail
    refine (from_any _ _ l [0] _ (HA.out.below HBL.out) HL.out HR.out (fun k hk => by rw [List.mem_singleton.1 hk]; exact hl0) (by omega) (by simp)).mono ?_
    rintro e w2 ⟨v, rfl, ho2⟩
    have HB2 := hid (HBL.out.trans (ho2.below.mono HBL.out.size))
    have HS := hid (show Sl w2 v (seenOf l).length 1 (bools (seenOf l)) from by rw [HLS.out]; exact ho2.sl)
    obtain ⟨a2, c2, rfl⟩ := ho2.sl.val
    clear ho2
    go_wp2_with fail
    refine (left_any _ _ l (seenOf l) _ (HA.out.below HB2.out) HS.out HLS.out hn HJ.out).mono ?_
    rintro e w3 ⟨v3, v4, rfl, ho3⟩
    have HX := hid (Out.since HB2.out ho3)
    go_wp2
    go_ret2
    unfold CodeBy
    rw [if_pos HZ.out]
    exact ⟨_, rfl, HX.out⟩
  · have HZ := hid h0
    have HE : Hid (errVal (codeFault l) = .iface 34 (.int .i64 (codeFault l))) := hid (errVal_ne h0)
    clear h0
    go_enter Tryd.func31, Tryd.ntmps31
    go_wp2_with fail
    refine HC.out.mono ?_
    rintro e w1 ⟨rfl, hb1⟩
    rw [HE.out]
    go_wp2
    go_ret2
    unfold CodeBy
    rw [if_neg HZ.out]
    exact ⟨rfl, hb1⟩

end Go.Proofs.YtdnnnjedobknhaaDoor.trims
