/- Types as texts: what an answer of Method or MethodOf gives. No condition. -/
import Derived.Test.YtloeaihbnnnncaaGreatDoorDesc5
namespace Go.Proofs.YtloeaihbnnnncaaGreatDoor.descs
open Go.RowKit Go.Proofs.YtloeaihbnnnncaaGreatDoor.lib Go.Proofs.YtloeaihbnnnncaaGreatDoor.errs Go.Proofs.YtloeaihbnnnncaaGreatDoor.names

theorem sv_map (ts : List (List UInt8)) : ts.map sv = (ts.map bs).map .string := by rw [List.map_map]; rfl
theorem methodBy_some {w w' : World} {S g : List UInt8} {ts : List (List UInt8)} {e : Ending} (hm : methodOf S = some (ts, g)) (h : MethodBy w S e w') : ∃ v, e = .returned (.tuple #[v, .string (bs g), .nilIface]) ∧ Out w w' 9 1 v ts.length (ts.map sv) := by
  unfold MethodBy at h; rw [hm] at h; exact h
theorem methodBy_none {w w' : World} {S : List UInt8} {e : Ending} (hm : methodOf S = none) (h : MethodBy w S e w') : e = .returned (.tuple #[.slice none 0 0, .string { data := #[] }, .iface 58 (.int .i64 1)]) ∧ Below w.heap.size w w' := by
  unfold MethodBy at h; rw [hm] at h; exact h
theorem methodSaid_some {w w' : World} {S g : List UInt8} {ts : List (List UInt8)} {e : Ending} (hm : methodOf S = some (ts, g)) (h : MethodSaid w S e w') : ∃ v, e = .returned (.tuple #[v, .string (bs g), .bool true]) ∧ Out w w' 9 1 v ts.length (ts.map sv) := by
  unfold MethodSaid at h; rw [hm] at h; exact h
theorem methodSaid_none {w w' : World} {S : List UInt8} {e : Ending} (hm : methodOf S = none) (h : MethodSaid w S e w') : e = .returned (.tuple #[.slice none 0 0, .string { data := #[] }, .bool false]) ∧ Below w.heap.size w w' := by
  unfold MethodSaid at h; rw [hm] at h; exact h

theorem isTy_of_isWd {l : List UInt8} (h : isWd l = true) : isTy l = true := by
  simp only [isWd, decide_eq_true_eq] at h
  rcases h with rfl | rfl <;> decide +kernel

end Go.Proofs.YtloeaihbnnnncaaGreatDoor.descs
