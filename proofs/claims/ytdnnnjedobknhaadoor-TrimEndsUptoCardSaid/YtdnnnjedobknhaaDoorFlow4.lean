/- What comes next: the reference's After. Condition: the place is one of the code's. -/
import Derived.Test.YtdnnnjedobknhaaDoorFlow3
namespace Go.Proofs.YtdnnnjedobknhaaDoor.flows
open Go.RowKit Go.Proofs.YtdnnnjedobknhaaDoor.lib Go.Proofs.YtdnnnjedobknhaaDoor.errs Go.Proofs.YtdnnnjedobknhaaDoor.names Go.Proofs.YtdnnnjedobknhaaDoor.descs Go.Proofs.YtdnnnjedobknhaaDoor.ins

theorem Out.lit_at {w W : World} (hb : Below w.heap.size w W) (arr : Array Value) (e : TypeId) (n size B : Nat) (hB : W.heap.size = B) (h : arr.size = n * size) (hm : n ≤ maxLen) : Out w (W.alloc (.cells arr e)) e size (.slice (some ⟨B, 0, none⟩) n n) n arr.toList := by
  subst hB
  exact ⟨World.ownsRow_lit W arr n hb.size hm h, hb.alloc hb.size _⟩

set_option maxRecDepth 100000 in
set_option maxHeartbeats 2000000 in
theorem rafter_any (va : Value) (l : List I) (k : Nat) (w : World) (ha : Code w va l) (hk : k < l.length) (hn : l.length ≤ 1000000000000) :
    Calls Tryd.prog 25 #[va, .int .i64 (k : Int)] w (Gives w (afterOf l[k] k)) := by
  obtain ⟨a, c, rfl⟩ := ha.val
  obtain ⟨b, off, hab, hc0, hc1, hc2, hc3, hc4, hc5⟩ := code_at ha hk
  subst hab
  have hi : (0 : Int) ≤ (k : Int) := by omega
  have hkl : (k : Int) < (l.length : Int) := by omega
  generalize l[k] = x at hc0 hc1 hc2 hc3 hc4 hc5
  obtain ⟨op, xa, xb, t, xc, xn⟩ := x
  have HB := hid (ext_alloc w (.cells #[.int .i64 op, .int .i64 xa, .int .i64 xb, .string t, .string xc, .string xn] 53))
  have HN := hid (Out.nil_at HB.out 3 1)
  clear ha
  by_cases h14 : op = 14
  · subst h14
    have HZ : Hid (afterOf ⟨14, xa, xb, t, xc, xn⟩ k = [xa]) := hid (by simp [afterOf, endsOp, jumpsOp])
    have HO := hid (Out.lit_at HB.out #[.int .i64 xa] 3 1 1 (w.heap.size + 1) (by simp) rfl (by decide))
    go_enter Tryd.func25, Tryd.ntmps25
    go_wp2
    go_ret
    exact ⟨_, rfl, by rw [HZ.out]; exact HO.out⟩
  · have h14b : (op == 14) = false := by simp [h14]
    cases hE : endsOp op with
    | true =>
      have HZ : Hid (afterOf ⟨op, xa, xb, t, xc, xn⟩ k = []) := hid (by
        have hJ : jumpsOp op = false := by
          cases hJ : jumpsOp op with
          | false => rfl
          | true => exact absurd (ends_jumps hE hJ) h14
        simp [afterOf, hE, hJ])
      have HE := hid hE
      clear hE
      go_enter Tryd.func25, Tryd.ntmps25
      go_wp2_with fail
      refine (rends_any op _).mono ?_
      rintro e w1 ⟨rfl, rfl⟩
      rw [HE.out]
      go_wp2
      go_ret
      exact ⟨_, rfl, by rw [HZ.out]; exact HN.out⟩
    | false =>
      have HO := hid (Out.lit_at HB.out #[.int .i64 ((k : Int) + 1)] 3 1 1 (w.heap.size + 1) (by simp) rfl (by decide))
      cases hJ : jumpsOp op with
      | false =>
        have HZ : Hid (afterOf ⟨op, xa, xb, t, xc, xn⟩ k = [(k : Int) + 1]) := hid (by simp [afterOf, hE, hJ])
        have HE := hid hE; have HJ := hid hJ
        clear hE hJ
        go_enter Tryd.func25, Tryd.ntmps25
        go_wp2_with fail
        refine (rends_any op _).mono ?_
        rintro e w1 ⟨rfl, rfl⟩
        rw [HE.out]
        go_wp2_with fail
        refine (rjumps_any op _).mono ?_
        rintro e w1 ⟨rfl, rfl⟩
        rw [HJ.out]
        go_wp2
        go_ret
        exact ⟨_, rfl, by rw [HZ.out]; exact HO.out⟩
      | true =>
        by_cases hx : xa = (k : Int) + 1
        · have HZ : Hid (afterOf ⟨op, xa, xb, t, xc, xn⟩ k = [(k : Int) + 1]) := hid (by simp [afterOf, hE, hJ, hx, h14])
          have HE := hid hE; have HJ := hid hJ
          clear hE hJ
          subst hx
          go_enter Tryd.func25, Tryd.ntmps25
          go_wp2_with fail
          refine (rends_any op _).mono ?_
          rintro e w1 ⟨rfl, rfl⟩
          rw [HE.out]
          go_wp2_with fail
          refine (rjumps_any op _).mono ?_
          rintro e w1 ⟨rfl, rfl⟩
          rw [HJ.out]
          go_wp2
          go_ret
          exact ⟨_, rfl, by rw [HZ.out]; exact HO.out⟩
        · have HZ : Hid (afterOf ⟨op, xa, xb, t, xc, xn⟩ k = [(k : Int) + 1, xa]) := hid (by simp [afterOf, hE, hJ, hx])
          have HO2 := hid (Out.lit_at HB.out #[.int .i64 ((k : Int) + 1), .int .i64 xa] 3 2 1 (w.heap.size + 1) (by simp) rfl (by decide))
          have HE := hid hE; have HJ := hid hJ
          have hxb : (xa == (k : Int) + 1) = false := by simp [hx]
          have hxm : (xa != (k : Int) + 1) = true := by simp [hx]
          clear hE hJ
          go_enter Tryd.func25, Tryd.ntmps25
          go_wp2_with fail
          refine (rends_any op _).mono ?_
          rintro e w1 ⟨rfl, rfl⟩
          rw [HE.out]
          go_wp2_with fail
          refine (rjumps_any op _).mono ?_
          rintro e w1 ⟨rfl, rfl⟩
          rw [HJ.out]
          go_wp2
          go_ret
          exact ⟨_, rfl, by rw [HZ.out]; exact HO2.out⟩

end Go.Proofs.YtdnnnjedobknhaaDoor.flows
