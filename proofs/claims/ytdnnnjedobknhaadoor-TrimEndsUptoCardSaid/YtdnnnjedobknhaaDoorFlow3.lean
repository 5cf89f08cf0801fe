/- What comes next: flow.After and the reference's After. Condition: the place is one of the code's. -/
import Derived.Test.YtdnnnjedobknhaaDoorFlow1
import Derived.Test.YtdnnnjedobknhaaDoorOwn
namespace Go.Proofs.YtdnnnjedobknhaaDoor.flows
open Go.RowKit Go.Proofs.YtdnnnjedobknhaaDoor.lib Go.Proofs.YtdnnnjedobknhaaDoor.errs Go.Proofs.YtdnnnjedobknhaaDoor.names Go.Proofs.YtdnnnjedobknhaaDoor.descs Go.Proofs.YtdnnnjedobknhaaDoor.ins

/-- where an instruction at a place may go on -/
def afterOf (x : I) (k : Nat) : List Int :=
  (if endsOp x.op = true then [] else [(k : Int) + 1]) ++ (if jumpsOp x.op = true ∧ (x.op = 14 ∨ x.a ≠ (k : Int) + 1) then [x.a] else [])
theorem ends_jumps {op : Int} (h1 : endsOp op = true) (h2 : jumpsOp op = true) : op = 14 := by
  simp [endsOp, jumpsOp] at h1 h2; omega
theorem goes_on {op : Int} (h1 : endsOp op = false) : op ≠ 14 := by
  simp [endsOp] at h1; omega
theorem infoInt : (Tryd.prog.info? 3).map (fun i => (i.zero, i.size, i.bytes)) = some (some (.int .i64 0), 1, 8) := by kernel_rfl
theorem Out.nil_at {w w' : World} (hb : Below w.heap.size w w') (e : TypeId) (size : Nat) : Out w w' e size (.slice none 0 0) 0 [] := ⟨World.ownsRow_nil _ _ _ _, hb⟩
/-- behind an append to an empty slice the box is as it was -/
theorem _root_.Go.Proofs.YtdnnnjedobknhaaDoor.ins.Box.grown {w w' : World} {B n c : Nat} {x : I} (h : Box w B x) (hg : w.grownBy w' (Value.slice none n c).ownBlock) : Box w' B x := by
  obtain ⟨h0, h1, h2, h3, h4, h5⟩ := h
  refine ⟨?_, ?_, ?_, ?_, ?_, ?_⟩
  all_goals (first | exact hg.cell h0 (by intro h; cases h) | exact hg.cell h1 (by intro h; cases h) | exact hg.cell h2 (by intro h; cases h) | exact hg.cell h3 (by intro h; cases h) | exact hg.cell h4 (by intro h; cases h) | exact hg.cell h5 (by intro h; cases h))
/-- an own list of numbers, as an answer -/
def Gives (w : World) (zs : List Int) (e : Ending) (w' : World) : Prop := ∃ v, e = .returned v ∧ Out w w' 3 1 v zs.length (zs.map (.int .i64))

set_option maxRecDepth 100000 in
set_option maxHeartbeats 2000000 in
theorem after_any (va : Value) (l : List I) (k : Nat) (w : World) (ha : Code w va l) (hk : k < l.length) (hn : l.length ≤ 1000000000000) :
    Calls Tryd.prog 61 #[va, .int .i64 (k : Int)] w (Gives w (afterOf l[k] k)) := by
  obtain ⟨a, c, rfl⟩ := ha.val
  obtain ⟨b, off, hab, hc0, hc1, hc2, hc3, hc4, hc5⟩ := code_at ha hk
  subst hab
  have hi : (0 : Int) ≤ (k : Int) := by omega
  have hkl : (k : Int) < (l.length : Int) := by omega
  generalize l[k] = x at hc0 hc1 hc2 hc3 hc4 hc5
  obtain ⟨op, xa, xb, t, xc, xn⟩ := x
  have HB := hid (ext_alloc w (.cells #[.int .i64 op, .int .i64 xa, .int .i64 xb, .string t, .string xc, .string xn] 53))
  have HN := hid (Out.nil_at HB.out 3 1)
  have HBX := hid (Box.new w (⟨op, xa, xb, t, xc, xn⟩ : I) 53)
  clear ha
  cases hE : endsOp op with
  | true =>
    cases hJ : jumpsOp op with
    | true =>
      obtain rfl := ends_jumps hE hJ
      have HZ : Hid (afterOf ⟨14, xa, xb, t, xc, xn⟩ k = [xa]) := hid (by simp [afterOf, endsOp, jumpsOp])
      clear hE hJ
      go_enter Tryd.func61, Tryd.ntmps61
      go_wp2_with fail
      refine (ends_any 14 _).mono ?_
      rintro e w1 ⟨rfl, rfl⟩
      rw [show endsOp 14 = true from rfl]
      go_wp2_with fail
      refine (jumps_any 14 _).mono ?_
      rintro e w1 ⟨rfl, rfl⟩
      rw [show jumpsOp 14 = true from rfl]
      go_wp2_with (at_builtin; refine wpList_append_lit_b w _ _ _ rfl _ _ 26 rfl 3 (.int .i64 0) 1 8 1 Tryd.underlying26 infoInt rfl (by decide) _ _ _ HN.out rfl rfl ?_ rfl ?_ ?_ ?_ ?_)
      all_goals first | (intro v1 w1 ho1 hg1 _) | omega | (simp [Value.oneCell']; done) | skip
      go_wp2
      go_ret
      exact ⟨_, rfl, by rw [HZ.out]; exact ho1⟩
    | false =>
      have HZ : Hid (afterOf ⟨op, xa, xb, t, xc, xn⟩ k = []) := hid (by simp [afterOf, hE, hJ])
      have HE := hid hE; have HJ := hid hJ
      clear hE hJ
      go_enter Tryd.func61, Tryd.ntmps61
      go_wp2_with fail
      refine (ends_any op _).mono ?_
      rintro e w1 ⟨rfl, rfl⟩
      rw [HE.out]
      go_wp2_with fail
      refine (jumps_any op _).mono ?_
      rintro e w1 ⟨rfl, rfl⟩
      rw [HJ.out]
      go_wp2
      go_ret
      exact ⟨_, rfl, by rw [HZ.out]; exact HN.out⟩
  | false =>
    have h14 := goes_on hE
    have h14b : (op == 14) = false := by simp [h14]
    cases hJ : jumpsOp op with
    | true =>
      by_cases hx : xa = (k : Int) + 1
      · have HZ : Hid (afterOf ⟨op, xa, xb, t, xc, xn⟩ k = [(k : Int) + 1]) := hid (by simp [afterOf, hE, hJ, hx, h14])
        have HE := hid hE; have HJ := hid hJ
        clear hE hJ
        subst hx
        go_enter Tryd.func61, Tryd.ntmps61
        go_wp2_with fail
        refine (ends_any op _).mono ?_
        rintro e w1 ⟨rfl, rfl⟩
        rw [HE.out]
        go_wp2_with (at_builtin; refine wpList_append_lit_b w _ _ _ rfl _ _ 26 rfl 3 (.int .i64 0) 1 8 1 Tryd.underlying26 infoInt rfl (by decide) _ _ _ HN.out rfl rfl ?_ rfl ?_ ?_ ?_ ?_)
        all_goals first | (intro v1 w1 ho1 hg1 _) | omega | (simp [Value.oneCell']; done) | skip
        have HO1 := hid ho1
        obtain ⟨c0, c1, c2, c3, c4, c5⟩ := HBX.out.grown hg1
        clear ho1
        go_wp2_with fail
        refine (jumps_any op _).mono ?_
        rintro e w2 ⟨rfl, rfl⟩
        rw [HJ.out]
        go_wp2
        go_ret
        exact ⟨_, rfl, by rw [HZ.out]; exact HO1.out⟩
      · have HZ : Hid (afterOf ⟨op, xa, xb, t, xc, xn⟩ k = [(k : Int) + 1, xa]) := hid (by simp [afterOf, hE, hJ, hx])
        have HE := hid hE; have HJ := hid hJ
        have hxb : (xa == (k : Int) + 1) = false := by simp [hx]
        have hxm : (xa != (k : Int) + 1) = true := by simp [hx]
        clear hE hJ
        go_enter Tryd.func61, Tryd.ntmps61
        go_wp2_with fail
        refine (ends_any op _).mono ?_
        rintro e w1 ⟨rfl, rfl⟩
        rw [HE.out]
        go_wp2_with (at_builtin; refine wpList_append_lit_b w _ _ _ rfl _ _ 26 rfl 3 (.int .i64 0) 1 8 1 Tryd.underlying26 infoInt rfl (by decide) _ _ _ HN.out rfl rfl ?_ rfl ?_ ?_ ?_ ?_)
        all_goals first | (intro v1 w1 ho1 hg1 _) | omega | (simp [Value.oneCell']; done) | skip
        have HO1 := hid ho1
        obtain ⟨c0, c1, c2, c3, c4, c5⟩ := HBX.out.grown hg1
        clear ho1
        go_wp2_with fail
        refine (jumps_any op _).mono ?_
        rintro e w2 ⟨rfl, rfl⟩
        rw [HJ.out]
        go_wp2_with (at_builtin; refine wpList_append_lit_b w _ _ _ rfl _ _ 26 rfl 3 (.int .i64 0) 1 8 1 Tryd.underlying26 infoInt rfl (by decide) _ _ _ HO1.out rfl rfl ?_ rfl ?_ ?_ ?_ ?_)
        all_goals first | (intro v2 w2 ho2 hg2 _) | omega | (simp [Value.oneCell']; done) | skip
        go_wp2
        go_ret
        exact ⟨_, rfl, by rw [HZ.out]; exact ho2⟩
    | false =>
      have HZ : Hid (afterOf ⟨op, xa, xb, t, xc, xn⟩ k = [(k : Int) + 1]) := hid (by simp [afterOf, hE, hJ])
      have HE := hid hE; have HJ := hid hJ
      clear hE hJ
      go_enter Tryd.func61, Tryd.ntmps61
      go_wp2_with fail
      refine (ends_any op _).mono ?_
      rintro e w1 ⟨rfl, rfl⟩
      rw [HE.out]
      go_wp2_with (at_builtin; refine wpList_append_lit_b w _ _ _ rfl _ _ 26 rfl 3 (.int .i64 0) 1 8 1 Tryd.underlying26 infoInt rfl (by decide) _ _ _ HN.out rfl rfl ?_ rfl ?_ ?_ ?_ ?_)
      all_goals first | (intro v1 w1 ho1 hg1 _) | omega | (simp [Value.oneCell']; done) | skip
      have HO1 := hid ho1
      obtain ⟨c0, c1, c2, c3, c4, c5⟩ := HBX.out.grown hg1
      clear ho1
      go_wp2_with fail
      refine (jumps_any op _).mono ?_
      rintro e w2 ⟨rfl, rfl⟩
      rw [HJ.out]
      go_wp2
      go_ret
      exact ⟨_, rfl, by rw [HZ.out]; exact HO1.out⟩

end Go.Proofs.YtdnnnjedobknhaaDoor.flows
