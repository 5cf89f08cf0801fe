/- Types of methods, changed: the identity, the reversal, plainly; the document's MethodText of right types. No condition. -/
import Derived.Test.YtikkhjcocmihlaaDoorMtype3
import Derived.Test.YtikkhjcocmihlaaDoorOwn
namespace Go.Proofs.YtikkhjcocmihlaaDoor.mtypes
open Go.RowKit Go.Proofs.YtikkhjcocmihlaaDoor.lib Go.Proofs.YtikkhjcocmihlaaDoor.errs Go.Proofs.YtikkhjcocmihlaaDoor.names Go.Proofs.YtikkhjcocmihlaaDoor.texts Go.Proofs.YtikkhjcocmihlaaDoor.descs

theorem permErr_zero {ms : List (List UInt8)} : ∀ {zs : List Int} {ts : List (List UInt8)}, (∀ k, k < zs.length → ∃ j : Nat, zs[k]? = some (j : Int) ∧ ∃ t, ts[k]? = some t ∧ ms[j]? = some t) → permErr ms zs ts = 0
  | [], ts, _ => by simp [permErr]
  | z :: zs, [], h => by
    obtain ⟨j, _, t, ht, _⟩ := h 0 (by simp)
    cases ht
  | z :: zs, t :: ts, h => by
    obtain ⟨j, hz, t', ht, hm⟩ := h 0 (by simp)
    cases hz
    cases ht
    have hj := (List.getElem?_eq_some_iff.1 hm).1
    rw [permErr, if_neg (by omega), if_pos (by rw [Int.toNat_natCast]; exact hm)]
    exact permErr_zero fun k hk => by
      obtain ⟨j, h1, t, h2, h3⟩ := h (k + 1) (by simpa using hk)
      exact ⟨j, by simpa using h1, t, by simpa using h2, h3⟩

def ownL (n : Nat) : List Int := (List.range n).map (fun i : Nat => (i : Int))
def backL (m n : Nat) : List Int := (List.range n).map (fun i : Nat => ((m - 1 - i : Nat) : Int))
def turnL (ts : List (List UInt8)) (n : Nat) : List (List UInt8) := (ts.reverse).take n

theorem ownL_step (n : Nat) : ownL (n + 1) = ownL n ++ [(n : Int)] := by unfold ownL; rw [List.range_succ, List.map_append]; rfl
theorem backL_step (m n : Nat) : backL m (n + 1) = backL m n ++ [((m - 1 - n : Nat) : Int)] := by unfold backL; rw [List.range_succ, List.map_append]; rfl
theorem turnL_step {ts : List (List UInt8)} {n : Nat} (h : n < ts.length) : turnL ts (n + 1) = turnL ts n ++ [ts[ts.length - 1 - n]] := by
  unfold turnL
  have h1 : n < ts.reverse.length := by rw [List.length_reverse]; exact h
  rw [List.take_add_one, List.getElem?_eq_getElem h1, List.getElem_reverse]; rfl
theorem ownL_len (n : Nat) : (ownL n).length = n := by unfold ownL; simp
theorem backL_len (m n : Nat) : (backL m n).length = n := by unfold backL; simp
theorem turnL_all (ts : List (List UInt8)) : turnL ts ts.length = ts.reverse := by unfold turnL; rw [← List.length_reverse, List.take_length]

theorem perm_own (ts : List (List UInt8)) : permErr ts (ownL ts.length) ts = 0 := permErr_zero fun k hk => by
  rw [ownL_len] at hk
  exact ⟨k, by simp [ownL, hk], ts[k], List.getElem?_eq_getElem hk, List.getElem?_eq_getElem hk⟩
theorem perm_back (ts : List (List UInt8)) : permErr ts.reverse (backL ts.length ts.length) ts = 0 := permErr_zero fun k hk => by
  rw [backL_len] at hk
  refine ⟨ts.length - 1 - k, by simp [backL, hk], ts[k], List.getElem?_eq_getElem hk, ?_⟩
  rw [List.getElem?_reverse (by omega), show ts.length - 1 - (ts.length - 1 - k) = k by omega]
  exact List.getElem?_eq_getElem hk
theorem perm_forth (ts : List (List UInt8)) : permErr ts (backL ts.length ts.length) ts.reverse = 0 := permErr_zero fun k hk => by
  rw [backL_len] at hk
  refine ⟨ts.length - 1 - k, by simp [backL, hk], ts[ts.length - 1 - k], ?_, List.getElem?_eq_getElem (by omega)⟩
  rw [List.getElem?_reverse (by omega)]
  exact List.getElem?_eq_getElem (by omega)

theorem fault_reverse {M g : List UInt8} {ts : List (List UInt8)} (h : methodOf M = some (ts, g)) : makeFault ts.reverse g = 0 := by
  obtain ⟨f1, _⟩ := make_method h
  obtain ⟨h5, hall, _, _, hg⟩ := text_small f1
  unfold makeFault
  rw [if_neg (by rw [List.length_reverse]; omega), if_pos ⟨by rw [List.all_reverse]; exact hall, hg⟩]

end Go.Proofs.YtikkhjcocmihlaaDoor.mtypes
