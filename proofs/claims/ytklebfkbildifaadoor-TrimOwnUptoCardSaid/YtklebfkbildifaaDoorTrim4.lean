/- What is never done: trim.Code; coffeehousesame.Code of one list twice. Conditions as for flow.Check. -/
import Derived.Test.YtklebfkbildifaaDoorTrim3
import Derived.Laws.StructEq
import Derived.BigQuiet
namespace Go.Proofs.YtklebfkbildifaaDoor.trims
open Go.RowKit Go.Proofs.YtklebfkbildifaaDoor.lib Go.Proofs.YtklebfkbildifaaDoor.errs Go.Proofs.YtklebfkbildifaaDoor.names Go.Proofs.YtklebfkbildifaaDoor.descs Go.Proofs.YtklebfkbildifaaDoor.ins Go.Proofs.YtklebfkbildifaaDoor.reach Go.Proofs.YtklebfkbildifaaDoor.flows

theorem ins_fields : Tryd.prog.underlying 33 = some (.struct (Tryd.prog.fieldsOf 33)) := by kernel_rfl
theorem ins_stood : Tryd.prog.stoodInHeld 33 = false := by kernel_rfl
theorem ins_guard : Tryd.prog.eqGuardType Tryd.prog.depth 33 = false := by kernel_rfl
theorem ins_len : (Tryd.prog.fieldsOf 33).toList.length = 6 := by kernel_rfl
theorem ins_names : (Tryd.prog.fieldsOf 33).toList.map (fun f => (f.type, f.offset, decide (f.name ≠ "_"))) = [(3, 0, true), (3, 1, true), (3, 2, true), (9, 3, true), (9, 4, true), (9, 5, true)] := by kernel_rfl

theorem part_int (w : World) (cs : Array Value) (off : Nat) (v : Value) (h : cs[off]? = some v) : (part 3 cs off).run Tryd.prog w = .ok v w := by
  simp [part, h, Result.andThen]
theorem part_str (w : World) (cs : Array Value) (off : Nat) (v : Value) (h : cs[off]? = some v) : (part 9 cs off).run Tryd.prog w = .ok v w := by
  simp [part, h, Result.andThen]

theorem eq_same (d : Nat) (op a b : Int) (t c n : ByteArray) (w : World) : (Op.equalIn (d + 2) 33 (.agg #[.int .i64 op, .int .i64 a, .int .i64 b, .string t, .string c, .string n]) (.agg #[.int .i64 op, .int .i64 a, .int .i64 b, .string t, .string c, .string n])).run Tryd.prog w = .ok true w := by
  rw [run_equalIn_agg w _ _ _ _ ins_fields ins_stood]
  have hn := ins_names
  have hl := ins_len
  generalize (Tryd.prog.fieldsOf 33).toList = fs at hn hl
  match fs, hl with
  | [f0, f1, f2, f3, f4, f5], _ =>
    simp only [List.map_cons, List.map_nil, List.cons.injEq, Prod.mk.injEq, decide_eq_true_eq, and_true] at hn
    obtain ⟨⟨t0, o0, n0⟩, ⟨t1, o1, n1⟩, ⟨t2, o2, n2⟩, ⟨t3, o3, n3⟩, ⟨t4, o4, n4⟩, t5, o5, n5⟩ := hn
    have ui := Tryd.underlying3
    have us := Tryd.underlying9
    simp only [Op.eqFields, n0, n1, n2, n3, n4, n5, t0, t1, t2, t3, t4, t5, o0, o1, o2, o3, o4, o5, ne_eq, not_false_eq_true, if_true, Sem.run_bind]
    have p0 := part_int w #[.int .i64 op, .int .i64 a, .int .i64 b, .string t, .string c, .string n] 0 (.int .i64 op) rfl
    have p1 := part_int w #[.int .i64 op, .int .i64 a, .int .i64 b, .string t, .string c, .string n] 1 (.int .i64 a) rfl
    have p2 := part_int w #[.int .i64 op, .int .i64 a, .int .i64 b, .string t, .string c, .string n] 2 (.int .i64 b) rfl
    have p3 := part_str w #[.int .i64 op, .int .i64 a, .int .i64 b, .string t, .string c, .string n] 3 (.string t) rfl
    have p4 := part_str w #[.int .i64 op, .int .i64 a, .int .i64 b, .string t, .string c, .string n] 4 (.string c) rfl
    have p5 := part_str w #[.int .i64 op, .int .i64 a, .int .i64 b, .string t, .string c, .string n] 5 (.string n) rfl
    have e0 := run_equalIn_int w d _ .i64 _ op op ui
    have e1 := run_equalIn_int w d _ .i64 _ a a ui
    have e2 := run_equalIn_int w d _ .i64 _ b b ui
    have e3 := run_equalIn_string w d _ t t us
    have e4 := run_equalIn_string w d _ c c us
    have e5 := run_equalIn_string w d _ n n us
    simp [p0, p1, p2, p3, p4, p5, e0, e1, e2, e3, e4, e5, Result.andThen]
theorem neq_same (op a b : Int) (t c n : ByteArray) (w : World) : (binOp .neq 33 (.agg #[.int .i64 op, .int .i64 a, .int .i64 b, .string t, .string c, .string n]) (.agg #[.int .i64 op, .int .i64 a, .int .i64 b, .string t, .string c, .string n])).run Tryd.prog w = .ok (.bool false) w := by
  rw [run_neq_struct, eq_same 9998]; rfl

set_option maxRecDepth 100000 in
set_option maxHeartbeats 2000000 in
/-- coffeehousesame.Code of two lists that read alike -/
theorem scode_same (va vb : Value) (l : List I) (w : World) (ha : Go.Proofs.YtklebfkbildifaaDoor.flows.Code w va l) (hb : Go.Proofs.YtklebfkbildifaaDoor.flows.Code w vb l) (hn : l.length ≤ 1000000000000) :
    Calls Tryd.prog 21 #[va, vb] w fun e w' => e = .returned (.bool true) ∧ Below w.heap.size w w' := by
  obtain ⟨a, c, rfl⟩ := ha.val
  obtain ⟨b, d, rfl⟩ := hb.val
  have HA := hid ha; have HB := hid hb
  have hg := ins_guard
  clear ha hb
  go_enter Tryd.func21, Tryd.ntmps21
  go_wp2_with fail
  go_loopw [5] (fun i wr => ∃ k : Nat, k ≤ l.length ∧ i = .int .i64 k ∧ Hid (Below w.heap.size w wr)) (fun i _ => l.length - (intOf i).toNat)
  case atStart => exact ⟨0, Nat.zero_le _, rfl, hid (Below.refl _ _)⟩
  case round =>
    obtain ⟨k, hk, rfl, HR⟩ := hrel
    by_cases hlt : k < l.length
    · obtain ⟨b1, o1, h1, hc0, hc1, hc2, hc3, hc4, hc5⟩ := code_at (HA.out.below HR.out) hlt
      obtain ⟨b2, o2, h2, hd0, hd1, hd2, hd3, hd4, hd5⟩ := code_at (HB.out.below HR.out) hlt
      subst h1
      subst h2
      have hi : (0 : Int) ≤ (k : Int) := by omega
      have hkl : (k : Int) < (l.length : Int) := by omega
      generalize l[k] = x at hc0 hc1 hc2 hc3 hc4 hc5 hd0 hd1 hd2 hd3 hd4 hd5
      obtain ⟨op, xa, xb, t, xc, xn⟩ := x
      have hq := neq_same op xa xb t xc xn
      go_wp2_with fail
      go_quiet (fail)
      go_wp2
      go_roundw
      case rel => exact ⟨k + 1, by omega, by go_num, hid (below_drewN HR.out _)⟩
      case measure => simp [intOf]; omega
    · go_wp2
      go_ret
      exact ⟨rfl, HR.out⟩

/-- right code's jumps lead inside -/
theorem jumps_in {l : List I} (h0 : codeFault l = 0) : ∀ x ∈ l, jumpsOp x.op = true → 0 ≤ x.a ∧ x.a ≤ (l.length : Int) := fun x hx hj => by
  obtain ⟨hR, _, _⟩ := right_of h0
  obtain ⟨i, hi, rfl⟩ := List.mem_iff_getElem.1 hx
  have h1 := jump_ge ((all_ok h0).1 _ hx) hj
  refine ⟨h1, ?_⟩
  by_cases hc : l[i].op = 14 ∨ l[i].a ≠ (i : Int) + 1
  · have := hR i hi l[i].a (by unfold afterOf; exact List.mem_append_right _ (by rw [if_pos ⟨hj, hc⟩]; exact List.mem_singleton.2 rfl))
    omega
  · have : l[i].a = (i : Int) + 1 := Classical.not_not.1 (fun e => hc (.inr e))
    omega

/-- what trim.Code answers -/
def CodeBy (w : World) (l : List I) (e : Ending) (w' : World) : Prop :=
  if codeFault l = 0 then ∃ v, e = .returned (.tuple #[v, .nilIface]) ∧ Out w w' 33 6 v (trimOf l (seenOf l)).length (cellsOf (trimOf l (seenOf l)))
  else e = .returned (.tuple #[.slice none 0 0, .iface 38 (.int .i64 (codeFault l))]) ∧ Below w.heap.size w w'
theorem codeBy_bad {w w' : World} {l : List I} {e : Ending} (h : ¬ codeFault l = 0) (hr : CodeBy w l e w') : e = .returned (.tuple #[.slice none 0 0, .iface 38 (.int .i64 (codeFault l))]) ∧ Below w.heap.size w w' := by
  unfold CodeBy at hr; rwa [if_neg h] at hr
theorem codeBy_good {w w' : World} {l : List I} {e : Ending} (h : codeFault l = 0) (hr : CodeBy w l e w') : ∃ v, e = .returned (.tuple #[v, .nilIface]) ∧ Out w w' 33 6 v (trimOf l (seenOf l)).length (cellsOf (trimOf l (seenOf l))) := by
  unfold CodeBy at hr; rwa [if_pos h] at hr

set_option maxRecDepth 100000 in
set_option maxHeartbeats 2000000 in
theorem tcode_any (va : Value) (l : List I) (w : World) (ha : Go.Proofs.YtklebfkbildifaaDoor.flows.Code w va l) (hf : FormsAt w) (hs : ∀ x ∈ l, Small x) (hn : l.length ≤ 2000000) :
    Calls Tryd.prog 17 #[va] w (CodeBy w l) := by
  have HC := hid (fcheck_any va l w ha hf hs (by omega))
  obtain ⟨a, c, rfl⟩ := ha.val
  have HA := hid ha
  clear ha hf hs
  by_cases h0 : codeFault l = 0
  · have HZ := hid h0
    have HE : Hid (errVal (codeFault l) = .nilIface) := hid (errVal_zero h0)
    obtain ⟨hR, hl0, hl40⟩ := right_of h0
    have HR := hid hR
    have HJ := hid (jumps_in h0)
    have HLS : Hid ((seenOf l).length = l.length) := hid (reached_len (succ_lt hR))
    clear h0 hR
    go_enter Tryd.func17, Tryd.ntmps17
    go_wp2_with fail
    refine HC.out.mono ?_
    rintro e w1 ⟨rfl, hb1⟩
    rw [HE.out]
    have HB1 := hid hb1
    have HL := hid (Sl.lit w1 #[.int .i64 0] 3 1 1 rfl)
    have HBL := hid (hb1.alloc hb1.size (.cells #[.int .i64 0] 3))
    clear hb1
    go_wp2_with fail
    refine (from_any _ _ l [0] _ (HA.out.below HBL.out) HL.out HR.out (fun k hk => by rw [List.mem_singleton.1 hk]; exact hl0) (by omega) (by simp)).mono ?_
    rintro e w2 ⟨v, rfl, ho2⟩
    have HB2 := hid (HBL.out.trans (ho2.below.mono HBL.out.size))
    have HS := hid (show Sl w2 v (seenOf l).length 1 (bools (seenOf l)) from by rw [HLS.out]; exact ho2.sl)
    obtain ⟨a2, c2, rfl⟩ := ho2.sl.val
    clear ho2
    go_wp2_with fail
    refine (left_any _ _ l (seenOf l) _ (HA.out.below HB2.out) HS.out HLS.out hn HJ.out).mono ?_
    rintro e w3 ⟨v3, v4, rfl, ho3, _⟩
    have HX := hid (Out.since HB2.out ho3)
    go_wp2
    go_ret2
    unfold CodeBy
    rw [if_pos HZ.out]
    exact ⟨_, rfl, HX.out⟩
  · have HZ := hid h0
    have HE : Hid (errVal (codeFault l) = .iface 38 (.int .i64 (codeFault l))) := hid (errVal_ne h0)
    clear h0
    go_enter Tryd.func17, Tryd.ntmps17
    go_wp2_with fail
    refine HC.out.mono ?_
    rintro e w1 ⟨rfl, hb1⟩
    rw [HE.out]
    go_wp2
    go_ret2
    unfold CodeBy
    rw [if_neg HZ.out]
    exact ⟨rfl, hb1⟩

end Go.Proofs.YtklebfkbildifaaDoor.trims

/- coffeehouselaw4.trimmed. Condition: the table lies in its variable. -/
namespace Go.Proofs.YtklebfkbildifaaDoor.trims
open Go.RowKit Go.Proofs.YtklebfkbildifaaDoor.lib Go.Proofs.YtklebfkbildifaaDoor.errs Go.Proofs.YtklebfkbildifaaDoor.names Go.Proofs.YtklebfkbildifaaDoor.descs Go.Proofs.YtklebfkbildifaaDoor.ins Go.Proofs.YtklebfkbildifaaDoor.reach Go.Proofs.YtklebfkbildifaaDoor.flows

abbrev EE : ByteArray := { data := #[] }
def nopL : List I := [⟨1, 0, 0, EE, EE, EE⟩, ⟨14, 3, 0, EE, EE, EE⟩, ⟨6, 0, 0, EE, EE, EE⟩, ⟨26, 0, 0, EE, EE, EE⟩]
def shortL : List I := [⟨14, 1, 0, EE, EE, EE⟩, ⟨26, 0, 0, EE, EE, EE⟩]
theorem nop_small : ∀ x ∈ nopL, Small x := by
  intro x hx
  simp only [nopL, List.mem_cons, List.not_mem_nil, or_false] at hx
  rcases hx with rfl | rfl | rfl | rfl <;> exact ⟨by decide, by decide, by decide⟩
theorem nop_ok : codeFault nopL = 0 := by decide +kernel
theorem nop_trim : trimOf nopL (seenOf nopL) = shortL := by kernel_rfl

set_option maxRecDepth 100000 in
set_option maxHeartbeats 1000000 in
theorem trimmed_any (w : World) (hf : FormsAt w) : Calls Tryd.prog 15 #[] w fun e w' => e = .returned (.bool true) ∧ Below w.heap.size w w' := by
  have HF := hid hf
  have HB := hid (ext_alloc w (.cells (cellsOf nopL).toArray 33))
  have HL := hid (show Go.Proofs.YtklebfkbildifaaDoor.flows.Code (w.alloc (.cells (cellsOf nopL).toArray 33)) (.slice (some ⟨w.heap.size, 0, none⟩) 4 4) nopL from Sl.lit w (cellsOf nopL).toArray 33 4 6 rfl)
  clear hf
  go_enter Tryd.func15, Tryd.ntmps15
  go_wp2_with fail
  refine (tcode_any _ nopL _ HL.out (HF.out.below HB.out) nop_small (by decide)).mono ?_
  intro e w1 h1
  obtain ⟨v, rfl, ho⟩ := codeBy_good nop_ok h1
  rw [nop_trim] at ho
  have HB1 := hid (HB.out.trans (ho.below.mono HB.out.size))
  have HL2 := hid (show Go.Proofs.YtklebfkbildifaaDoor.flows.Code (w1.alloc (.cells (cellsOf shortL).toArray 33)) (.slice (some ⟨w1.heap.size, 0, none⟩) 2 2) shortL from Sl.lit w1 (cellsOf shortL).toArray 33 2 6 rfl)
  have HE2 := hid (ext_alloc w1 (.cells (cellsOf shortL).toArray 33))
  have HS := hid (show Go.Proofs.YtklebfkbildifaaDoor.flows.Code w1 v shortL from ho.sl)
  obtain ⟨a2, c2, rfl⟩ := ho.sl.val
  clear ho h1
  go_wp2_with fail
  refine (scode_same _ _ shortL _ (HS.out.below HE2.out) HL2.out (by decide)).mono ?_
  rintro e w2 ⟨rfl, hb2⟩
  have HB2 := hid (HB1.out.trans (HE2.out.mono HB1.out.size))
  go_wp2
  go_ret
  exact ⟨rfl, HB2.out.trans (hb2.mono HB2.out.size)⟩
end Go.Proofs.YtklebfkbildifaaDoor.trims
