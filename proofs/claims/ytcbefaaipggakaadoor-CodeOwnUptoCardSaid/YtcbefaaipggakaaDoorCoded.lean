/- coffeehouselaw1.coded: the law's own first look. Conditions: the two tables lie in their variables. -/
import Derived.Test.YtcbefaaipggakaaDoorTxt4
set_option linter.unusedSimpArgs false
set_option linter.unusedVariables false
namespace Go.Proofs.YtcbefaaipggakaaDoor.txts
open Go.RowKit Go.Proofs.YtcbefaaipggakaaDoor.lib Go.Proofs.YtcbefaaipggakaaDoor.errs Go.Proofs.YtcbefaaipggakaaDoor.names Go.Proofs.YtcbefaaipggakaaDoor.descs Go.Proofs.YtcbefaaipggakaaDoor.ins Go.Proofs.YtcbefaaipggakaaDoor.nums Go.Proofs.YtcbefaaipggakaaDoor.flows

def nop1 : List I := [⟨1, 0, 0, { data := #[] }, { data := #[] }, { data := #[] }⟩]
theorem nop1_ok : codeErr nop1 = 0 := by decide
theorem nop1_enc : encTo nop1 1 = [1, 3, 110, 111, 112] := by decide +kernel

set_option maxRecDepth 100000 in
set_option maxHeartbeats 2000000 in
theorem coded_any (w : World) (hf : FormsAt w) (hp : Pow w) : Calls Tryd.prog 6 #[] w fun e w' => e = .returned (.bool true) ∧ Below w.heap.size w w' := by
  have HF := hid hf; have HP := hid hp
  have HSM : Hid (∀ x ∈ nop1, Small x ∧ InR x.a ∧ InR x.b) := hid (by
    intro x hx
    simp [nop1] at hx
    subst hx
    exact ⟨⟨by decide, by decide, by decide⟩, by unfold InR; decide, by unfold InR; decide⟩)
  clear hf hp
  go_enter Tryd.func6, Tryd.ntmps6
  go_wp2_with fail
  refine (encode_any _ nop1 _ (show Go.Proofs.YtcbefaaipggakaaDoor.flows.Code _ _ nop1 from Sl.lit _ _ 36 1 6 rfl) (HF.out.below (ext_alloc _ _)) (HP.out.below (ext_alloc _ _)) HSM.out (by decide)).mono ?_
  intro e w2 h2
  unfold EncBy at h2
  rw [if_pos nop1_ok, show nop1.length = 1 from rfl, nop1_enc, show ([1, 3, 110, 111, 112] : List Int).length = 5 from rfl] at h2
  obtain ⟨v2, rfl, ho2⟩ := h2
  have HB2 := hid ((ext_alloc _ _).trans (ho2.below.mono (by simp)))
  have hcs := run_conv_str (P := Tryd.prog) Tryd.underlying23 Tryd.underlying5 Tryd.underlying9 ho2.sl
  rw [show strOfNums [1, 3, 110, 111, 112] = { data := #[1, 3, 110, 111, 112] } from rfl] at hcs
  obtain ⟨a2, c2, hv2⟩ := ho2.sl.val
  subst hv2
  clear ho2
  go_wp2
  go_ret
  exact ⟨rfl, HB2.out⟩
end Go.Proofs.YtcbefaaipggakaaDoor.txts
