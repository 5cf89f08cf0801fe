/- coffeehousesame.Code of two lists of instructions that read alike: true. No condition but the length's. -/
import Derived.Test.YtcbefaaipggakaaDoorPrs3
import Derived.Test.YtcbefaaipggakaaDoorFlowP
set_option linter.unusedSimpArgs false
set_option linter.unusedVariables false
namespace Go.Proofs.YtcbefaaipggakaaDoor.txts
open Go.RowKit Go.Proofs.YtcbefaaipggakaaDoor.lib Go.Proofs.YtcbefaaipggakaaDoor.errs Go.Proofs.YtcbefaaipggakaaDoor.names Go.Proofs.YtcbefaaipggakaaDoor.descs Go.Proofs.YtcbefaaipggakaaDoor.ins Go.Proofs.YtcbefaaipggakaaDoor.nums Go.Proofs.YtcbefaaipggakaaDoor.flows

set_option maxRecDepth 100000 in
set_option maxHeartbeats 2000000 in
/-- coffeehousesame.Code of two lists that read alike -/
theorem scode_same (va vb : Value) (l : List I) (w : World) (ha : Go.Proofs.YtcbefaaipggakaaDoor.flows.Code w va l) (hb : Go.Proofs.YtcbefaaipggakaaDoor.flows.Code w vb l) (hn : l.length ≤ 1000000000000) :
    Calls Tryd.prog 9 #[va, vb] w fun e w' => e = .returned (.bool true) ∧ Below w.heap.size w w' := by
  obtain ⟨a, c, rfl⟩ := ha.val
  obtain ⟨b, d, rfl⟩ := hb.val
  have HA := hid ha; have HB := hid hb
  have hg := ins_guard
  clear ha hb
  go_enter Tryd.func9, Tryd.ntmps9
  go_wp2_with fail
  go_loopw [5] (fun i wr => ∃ k : Nat, k ≤ l.length ∧ i = .int .i64 k ∧ Hid (Below w.heap.size w wr)) (fun i _ => l.length - (intOf i).toNat)
  case atStart => exact ⟨0, Nat.zero_le _, rfl, hid (Below.refl _ _)⟩
  case round =>
    obtain ⟨k, hk, rfl, HR⟩ := hrel
    by_cases hlt : k < l.length
    · obtain ⟨b1, o1, h1, hc0, hc1, hc2, hc3, hc4, hc5⟩ := code_at (HA.out.below HR.out) hlt
      obtain ⟨b2, o2, h2, hd0, hd1, hd2, hd3, hd4, hd5⟩ := code_at (HB.out.below HR.out) hlt
      subst h1
      subst h2
      have hi : (0 : Int) ≤ (k : Int) := by omega
      have hkl : (k : Int) < (l.length : Int) := by omega
      generalize l[k] = x at hc0 hc1 hc2 hc3 hc4 hc5 hd0 hd1 hd2 hd3 hd4 hd5
      obtain ⟨op, xa, xb, t, xc, xn⟩ := x
      have hq := neq_same op xa xb t xc xn
      go_wp2_with fail
      go_quiet (fail)
      go_wp2
      go_roundw
      case rel => exact ⟨k + 1, by omega, by go_num, hid (below_drewN HR.out _)⟩
      case measure => simp [intOf]; omega
    · go_wp2
      go_ret
      exact ⟨rfl, HR.out⟩
end Go.Proofs.YtcbefaaipggakaaDoor.txts
