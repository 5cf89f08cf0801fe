/- code.Decode: what it answers. Conditions: as code.Cut. -/
import Derived.Test.YtcbefaaipggakaaDoorCut3
set_option linter.unusedSimpArgs false
set_option linter.unusedVariables false
namespace Go.Proofs.YtcbefaaipggakaaDoor.txts
open Go.RowKit Go.Proofs.YtcbefaaipggakaaDoor.lib Go.Proofs.YtcbefaaipggakaaDoor.errs Go.Proofs.YtcbefaaipggakaaDoor.names Go.Proofs.YtcbefaaipggakaaDoor.descs Go.Proofs.YtcbefaaipggakaaDoor.ins Go.Proofs.YtcbefaaipggakaaDoor.nums Go.Proofs.YtcbefaaipggakaaDoor.flows

/-- the instructions of bytes -/
def decB (b : List Int) : Option (List I) := match cutB b with
  | some (l, []) => some l
  | _ => none
def DecBy (w : World) (b : List Int) (e : Ending) (w' : World) : Prop := match decB b with
  | none => e = .returned (.tuple #[.slice none 0 0, .iface 32 (.int .i64 1)]) ∧ Below w.heap.size w w'
  | some l => ∃ v, e = .returned (.tuple #[v, .nilIface]) ∧ Out w w' 36 6 v l.length (cellsOf l)
theorem decBy_none {w w' : World} {b : List Int} (h : decB b = none) (hb : Below w.heap.size w w') : DecBy w b (.returned (.tuple #[.slice none 0 0, .iface 32 (.int .i64 1)])) w' := by
  unfold DecBy; rw [h]; exact ⟨rfl, hb⟩
theorem decBy_some {w w' : World} {b : List Int} {l : List I} {v : Value} (h : decB b = some l) (ho : Out w w' 36 6 v l.length (cellsOf l)) : DecBy w b (.returned (.tuple #[v, .nilIface])) w' := by
  unfold DecBy; rw [h]; exact ⟨v, rfl, ho⟩

set_option maxRecDepth 100000 in
set_option maxHeartbeats 2000000 in
theorem decode_any (v : Value) (b : List Int) (w : World) (hs : Sl w v b.length 1 (b.map (.int .u8))) (hb : ∀ z ∈ b, 0 ≤ z ∧ z ≤ 255) (hn : b.length ≤ 10000000) (hv : Vars w) :
    Calls Tryd.prog 8 #[v] w (DecBy w b) := by
  obtain ⟨a, c, rfl⟩ := hs.val
  go_enter Tryd.func8, Tryd.ntmps8
  go_wp2_with fail
  refine (cut_any a c b w hs hb hn hv).mono ?_
  clear hs hb hn hv
  intro e w1 h1
  unfold CutBy at h1
  cases hc : cutB b with
  | none =>
    rw [hc] at h1
    obtain ⟨rfl, hb1⟩ := h1
    have HB := hid hb1
    have HN := hid (show decB b = none by unfold decB; rw [hc])
    clear hb1 hc
    go_wp2
    go_ret2
    exact decBy_none HN.out HB.out
  | some p =>
    obtain ⟨l, q⟩ := p
    rw [hc] at h1
    obtain ⟨v1, v2, rfl, ho, hs2⟩ := h1
    have HO := hid ho
    obtain ⟨a1, c1, rfl⟩ := ho.sl.val
    obtain ⟨a2, c2, rfl⟩ := hs2.val
    clear ho hs2
    cases q with
    | nil =>
      have HN := hid (show decB b = some l by unfold decB; rw [hc])
      clear hc
      go_wp2
      go_ret2
      exact decBy_some HN.out HO.out
    | cons z r =>
      have HN := hid (show decB b = none by unfold decB; rw [hc])
      clear hc
      have hp : (0 : Int) < ((r.length + 1 : Nat) : Int) := by omega
      rw [List.length_cons]
      go_wp2
      go_ret2
      exact decBy_none HN.out HO.out.below
end Go.Proofs.YtcbefaaipggakaaDoor.txts
