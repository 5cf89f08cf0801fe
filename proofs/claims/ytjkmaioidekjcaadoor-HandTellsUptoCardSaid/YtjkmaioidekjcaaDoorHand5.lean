/- Handles: the document's leafType, all of it. Condition: the kind is one of a leaf's. -/
import Derived.Test.YtjkmaioidekjcaaDoorHand4
set_option linter.unusedSimpArgs false
set_option linter.unusedVariables false
namespace Go.Proofs.YtjkmaioidekjcaaDoor.hands
open Go.RowKit Go.Proofs.YtjkmaioidekjcaaDoor.lib Go.Proofs.YtjkmaioidekjcaaDoor.errs Go.Proofs.YtjkmaioidekjcaaDoor.names Go.Proofs.YtjkmaioidekjcaaDoor.descs Go.Proofs.YtjkmaioidekjcaaDoor.ins

theorem rleaf_bad (k : Int) (t : ByteArray) (a : Int) (va vs : Value) (w : World) (h : isWd t.data.toList = false) :
    Calls Tryd.prog 45 #[.agg #[.int .i64 k, .string t, .int .i64 a, va, vs]] w fun e w' => e = .returned (.tuple #[.string (bs (leafS k t.data.toList a)), .int .i64 (leafF k t.data.toList a)]) ∧ Below w.heap.size w w' := by
  have HF : Hid (leafF k t.data.toList a = 1) := hid (if_pos (.inl h))
  have HS : Hid (bs (leafS k t.data.toList a) = { data := #[] }) := hid (by unfold leafS; rw [HF.out]; rfl)
  have HB := hid (ext_alloc w (.cells #[.int .i64 k, .string t, .int .i64 a, va, vs] 25))
  have HW := hid (isWord_any t)
  rw [h] at HW
  rw [HS.out, HF.out]
  clear h
  go_enter Tryd.func45, Tryd.ntmps45
  go_wp2_with fail
  refine (HW.out _).mono ?_
  rintro e w1 ⟨rfl, hww⟩
  obtain rfl := hww.symm
  go_wp2
  go_ret2
  exact ⟨rfl, HB.out⟩

theorem rleaf_any (k : Int) (t : ByteArray) (a : Int) (va vs : Value) (w : World) (hk : k = 1 ∨ k = 2 ∨ k = 3) :
    Calls Tryd.prog 45 #[.agg #[.int .i64 k, .string t, .int .i64 a, va, vs]] w fun e w' => e = .returned (.tuple #[.string (bs (leafS k t.data.toList a)), .int .i64 (leafF k t.data.toList a)]) ∧ Below w.heap.size w w' := by
  cases hw : isWd t.data.toList with
  | false => exact rleaf_bad k t a va vs w hw
  | true =>
    have h2 : t.data.toList = [73] ∨ t.data.toList = [74] := by unfold isWd at hw; simpa using hw
    rcases h2 with h2 | h2
    · obtain rfl : t = { data := #[73] } := bs_of h2
      rcases hk with rfl | rfl | rfl
      · by_cases h : -2147483648 ≤ a ∧ a ≤ 2147483647
        · exact lf1I a va vs w h
        · exact lf1O a va vs w h
      · exact lf2I a va vs w
      · by_cases c1 : a < 1
        · exact lfLoI a va vs w c1
        by_cases c2 : 12 < a
        · exact lfHiI a va vs w c2
        by_cases c3 : a = 12
        · exact lf12I a va vs w c3
        by_cases c4 : a = 9
        · exact lf9I a va vs w c4
        by_cases c5 : a = 10
        · exact lf10I a va vs w c5
        by_cases c6 : a = 11
        · exact lf11I a va vs w c6
        exact lfElI a va vs w (by omega) (by omega)
    · obtain rfl : t = { data := #[74] } := bs_of h2
      rcases hk with rfl | rfl | rfl
      · exact lf1J a va vs w
      · exact lf2J a va vs w
      · by_cases c1 : a < 1
        · exact lfLoJ a va vs w c1
        by_cases c2 : 12 < a
        · exact lfHiJ a va vs w c2
        by_cases c3 : a = 12
        · exact lf12J a va vs w c3
        by_cases c4 : a = 9
        · exact lf9J a va vs w c4
        by_cases c5 : a = 10
        · exact lf10J a va vs w c5
        by_cases c6 : a = 11
        · exact lf11J a va vs w c6
        exact lfElJ a va vs w (by omega) (by omega)
end Go.Proofs.YtjkmaioidekjcaaDoor.hands
