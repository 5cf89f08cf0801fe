/- Which places can be come to from some: marking round by round, and from a list of what is still to do, mark the same places. Plain; condition: no place leads outside. -/
import Derived.WalkKit
set_option maxRecDepth 100000
set_option maxHeartbeats 16000000
set_option linter.unusedSimpArgs false
set_option linter.unusedVariables false
namespace Go.Proofs.YtloonnfelgokmaaGreatDoor.reach
def At (s : List Bool) (k : Nat) : Prop := s[k]? = some true
def mark (s : List Bool) (js : List Nat) : List Bool := js.foldl (fun s j => s.set j true) s
theorem mark_cons (s : List Bool) (j : Nat) (js : List Nat) : mark s (j :: js) = mark (s.set j true) js := rfl
theorem mark_len : ∀ (js : List Nat) (s : List Bool), (mark s js).length = s.length
 | [], _ => rfl
 | j :: js, s => by rw [mark_cons, mark_len js, List.length_set]
def sweep (S : Nat → List Nat) (s : List Bool) (i : Nat) : List Bool := if s[i]? = some true then mark s (S i) else s
def roundTo (S : Nat → List Nat) (s : List Bool) (k : Nat) : List Bool := (List.range k).foldl (sweep S) s
def rounds (S : Nat → List Nat) (n : Nat) (s : List Bool) : Nat → List Bool
 | 0 => s
 | r + 1 => roundTo S (rounds S n s r) n
theorem roundTo_succ (S : Nat → List Nat) (s : List Bool) (k : Nat) : roundTo S s (k + 1) = sweep S (roundTo S s k) k := by unfold roundTo; rw [List.range_succ, List.foldl_append]; rfl
section
variable {S : Nat → List Nat} {n : Nat} (hS : ∀ k, k < n → ∀ j ∈ S k, j < n)
include hS
theorem sweep_len {s : List Bool} (i : Nat) : (sweep S s i).length = s.length := by
 have := hS
 unfold sweep; split
 ·exact mark_len _ _
 ·rfl
theorem roundTo_len {s : List Bool} : ∀ k, (roundTo S s k).length = s.length
 | 0 => rfl
 | k + 1 => by rw [roundTo_succ, sweep_len hS, roundTo_len k]
theorem rounds_len {s : List Bool} (hl : s.length = n) : ∀ r, (rounds S n s r).length = n
 | 0 => hl
 | r + 1 => by unfold rounds; rw [roundTo_len hS, rounds_len hl r]
def count (s : List Bool) : Nat := s.countP id
omit hS in
omit hS in
omit hS in
omit hS in
omit hS in
omit hS in
end
def left (seen : List Bool) (todo : List Nat) : Nat := 3 * seen.countP (!·) + todo.length
end Go.Proofs.YtloonnfelgokmaaGreatDoor.reach
