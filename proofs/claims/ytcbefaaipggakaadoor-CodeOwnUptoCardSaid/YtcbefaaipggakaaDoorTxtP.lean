/- Instructions as text: what each kind needs, by its letters, plainly. No condition. -/
import Derived.Test.YtcbefaaipggakaaDoorTxt2
namespace Go.Proofs.YtcbefaaipggakaaDoor.txts
open Go.RowKit Go.Proofs.YtcbefaaipggakaaDoor.lib Go.Proofs.YtcbefaaipggakaaDoor.errs Go.Proofs.YtcbefaaipggakaaDoor.names Go.Proofs.YtcbefaaipggakaaDoor.descs Go.Proofs.YtcbefaaipggakaaDoor.ins Go.Proofs.YtcbefaaipggakaaDoor.nums

def patsL : List (List UInt8) := [[], [65], [84], [67], [65, 84], [65, 66], [67, 78], [84, 67, 78]]
theorem pat_all : ((List.range 29).all fun k => k == 0 || match formTab[k]? with
    | none => true
    | some (_, nd) => (needA k == nd.contains 65) && (needB k == nd.contains 66) && (needT k == nd.contains 84) && (needC k == nd.contains 67) && (needN k == nd.contains 78) && patsL.contains nd) = true := by decide +kernel
theorem pat_of {k : Nat} {wd nd : List UInt8} (hk : formTab[k]? = some (wd, nd)) (h1 : 1 ≤ k) (h2 : k ≤ 28) : needA k = nd.contains 65 ∧ needB k = nd.contains 66 ∧ needT k = nd.contains 84 ∧ needC k = nd.contains 67 ∧ needN k = nd.contains 78 ∧ nd ∈ patsL := by
  have h := List.all_eq_true.1 pat_all k (List.mem_range.2 (by omega))
  rw [hk] at h
  simp only [Bool.or_eq_true, beq_iff_eq, Bool.and_eq_true] at h
  rcases h with h | h
  · omega
  · obtain ⟨⟨⟨⟨⟨a, b⟩, c⟩, d⟩, e⟩, f⟩ := h
    exact ⟨a, b, c, d, e, by simpa using f⟩

end Go.Proofs.YtcbefaaipggakaaDoor.txts
