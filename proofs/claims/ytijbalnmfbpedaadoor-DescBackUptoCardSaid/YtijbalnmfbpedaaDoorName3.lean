/- The laws NameTells and NameJoined: their walks. No condition. -/
import Derived.Test.YtijbalnmfbpedaaDoorName2
namespace Go.Proofs.YtijbalnmfbpedaaDoor.names
open Go.RowKit Go.Proofs.YtijbalnmfbpedaaDoor.lib Go.Proofs.YtijbalnmfbpedaaDoor.errs

theorem checked_true {w w' : World} {e : Ending} {b : Bool} (h : Checked w b e w') (hb : b = true) : e = .returned .nilIface ∧ Below w.heap.size w w' := by
  subst hb; exact h
theorem checked_false {w w' : World} {e : Ending} {b : Bool} (h : Checked w b e w') (hb : b = false) : e = .returned (.iface 23 (.int .i64 1)) ∧ Below w.heap.size w w' := by
  subst hb; exact h

set_option maxHeartbeats 400000 in
theorem called_any (w : World) : Calls Tryd.prog 9 #[] w fun e w' => e = .returned (.bool true) ∧ Below w.heap.size w w' := by
  obtain ⟨i, hi, hc⟩ := errno_info
  have he := fun w : World => run_eql_iface_int (P := Tryd.prog) w 1 1 Tryd.underlying27 Tryd.underlying23 hi hc
  clear hi hc
  go_enter Tryd.func9, Tryd.ntmps9
  go_wp2_with fail
  refine (check_any _ _ (by decide)).mono ?_
  intro e w1 h1
  obtain ⟨rfl, hb1⟩ := checked_true h1 (by decide +kernel)
  go_wp2_with fail
  refine (check_any _ _ (by decide)).mono ?_
  intro e w2 h2
  obtain ⟨rfl, hb2⟩ := checked_false h2 (by decide +kernel)
  clear h1 h2
  go_wp2
  go_ret
  exact ⟨rfl, hb1.trans (hb2.mono hb1.size)⟩

set_option maxHeartbeats 400000 in
theorem tells_any (s : ByteArray) (w : World) (hs : s.size ≤ 9223372036854775807) : Calls Tryd.prog 3 #[.string s] w fun e w' => e = .returned (.bool true) ∧ Below w.heap.size w w' := by
  go_enter Tryd.func3, Tryd.ntmps3
  go_wp2_with fail
  refine (called_any _).mono ?_
  rintro e w1 ⟨rfl, hb1⟩
  go_wp2_with fail
  refine (isName_any s _ hs).mono ?_
  rintro e w2 ⟨rfl, rfl⟩
  cases hn : nameOk s.data.toList with
  | true =>
    have HN := hid hn; clear hn
    go_wp2_with fail
    refine (check_any s _ hs).mono ?_
    intro e w2 h2
    obtain ⟨rfl, hb2⟩ := checked_true h2 HN.out
    clear h2
    go_wp2_with fail
    refine (error_ok _).mono ?_
    rintro e w3 ⟨rfl, rfl⟩
    go_wp2
    go_ret
    exact ⟨rfl, hb1.trans (hb2.mono hb1.size)⟩
  | false =>
    have HN := hid hn; clear hn
    go_wp2_with fail
    refine (check_any s _ hs).mono ?_
    intro e w2 h2
    obtain ⟨rfl, hb2⟩ := checked_false h2 HN.out
    clear h2
    go_wp2_with fail
    refine (error_form _).mono ?_
    rintro e w3 ⟨rfl, rfl⟩
    go_wp2
    go_ret
    exact ⟨rfl, hb1.trans (hb2.mono hb1.size)⟩

end Go.Proofs.YtijbalnmfbpedaaDoor.names
