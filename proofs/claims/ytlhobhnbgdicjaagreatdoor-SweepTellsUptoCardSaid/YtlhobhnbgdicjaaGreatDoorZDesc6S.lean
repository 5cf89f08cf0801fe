/- Types as texts: what an answer of Method or MethodOf gives. No condition. -/
import Derived.Test.YtlhobhnbgdicjaaGreatDoorZDesc5
namespace Go.Proofs.YtlhobhnbgdicjaaGreatDoor.descs
open Go.RowKit lib errs names
theorem methodBy_some {w w' : World} {S g : List UInt8} {ts : List (List UInt8)} {e : Ending} (hm : methodOf S = some (ts, g)) (h : MethodBy w S e w') : ∃ v, e = .returned (.tuple #[v, .string (bs g), .nilIface]) ∧ Out w w' 9 1 v ts.length (ts.map sv) := by
 unfold MethodBy at h; rw [hm] at h; exact h
theorem methodBy_none {w w' : World} {S : List UInt8} {e : Ending} (hm : methodOf S = none) (h : MethodBy w S e w') : e = .returned (.tuple #[.slice none 0 0, .string { data := #[] }, .iface 28 (.int .i64 1)]) ∧ Below w.heap.size w w' := by
 unfold MethodBy at h; rw [hm] at h; exact h
theorem methodSaid_some {w w' : World} {S g : List UInt8} {ts : List (List UInt8)} {e : Ending} (hm : methodOf S = some (ts, g)) (h : MethodSaid w S e w') : ∃ v, e = .returned (.tuple #[v, .string (bs g), .bool true]) ∧ Out w w' 9 1 v ts.length (ts.map sv) := by
 unfold MethodSaid at h; rw [hm] at h; exact h
theorem methodSaid_none {w w' : World} {S : List UInt8} {e : Ending} (hm : methodOf S = none) (h : MethodSaid w S e w') : e = .returned (.tuple #[.slice none 0 0, .string { data := #[] }, .bool false]) ∧ Below w.heap.size w w' := by
 unfold MethodSaid at h; rw [hm] at h; exact h
end Go.Proofs.YtlhobhnbgdicjaaGreatDoor.descs
