/- Locks: who wait for one another. Plain; no condition. -/
import Derived.Test.YtmfhmikihnjkcaaDoorLock1
namespace Go.Proofs.YtmfhmikihnjkcaaDoor.locks
open Go.RowKit Go.Proofs.YtmfhmikihnjkcaaDoor.lib Go.Proofs.YtmfhmikihnjkcaaDoor.maps

/-- for whom one waits -/
def nxt (A : St) (x : Int) : Option Int := (waitsFor A x).map A.who
def it (A : St) (x : Int) : Nat → Option Int
  | 0 => some x
  | n + 1 => (it A x n).bind (nxt A)
def wayTo (A : St) (x : Int) (n : Nat) : List Int := (List.range n).filterMap (it A x)
def turns (A : St) (x : Int) : Option Nat := (List.range 51).find? fun n => decide (it A x (n + 1) = some x)
def ringFrom (A : St) (x : Int) : Option (List Int) := (turns A x).map fun n => wayTo A x (n + 1)
def ringTo (A : St) (n : Nat) : Option (List Int) := (List.range n).findSome? fun i : Nat => ringFrom A (i : Int)
def ring (A : St) : List Int := (ringTo A 50).getD []

theorem wayTo_succ {A : St} {x y : Int} {n : Nat} (h : it A x n = some y) : wayTo A x (n + 1) = wayTo A x n ++ [y] := by
  unfold wayTo; rw [List.range_succ, List.filterMap_append]; simp [h]
theorem it_none {A : St} {x : Int} {n : Nat} (h : it A x n = none) : ∀ m, it A x (n + m) = none
  | 0 => h
  | m + 1 => by rw [← Nat.add_assoc, it, it_none h m]; rfl
theorem it_some {A : St} {x : Int} {n : Nat} {y : Int} (h : it A x n = some y) {m : Nat} (hm : m ≤ n) : ∃ z, it A x m = some z := by
  cases hz : it A x m with
  | some z => exact ⟨z, rfl⟩
  | none => have := it_none hz (n - m); rw [show m + (n - m) = n by omega, h] at this; cases this
theorem it_next {A : St} {x y : Int} {n : Nat} (h : it A x n = some y) : it A x (n + 1) = nxt A y := by rw [it, h]; rfl
theorem way_len {A : St} {x : Int} : ∀ {n : Nat}, (∀ m, m < n → ∃ z, it A x m = some z) → (wayTo A x n).length = n
  | 0, _ => rfl
  | n + 1, h => by
    obtain ⟨z, hz⟩ := h n (by omega)
    rw [wayTo_succ hz, List.length_append, way_len fun m hm => h m (by omega)]; rfl
theorem mem_way {A : St} {x y : Int} {n : Nat} : y ∈ wayTo A x n ↔ ∃ m, m < n ∧ it A x m = some y := by
  unfold wayTo; simp
theorem turns_none {A : St} {x : Int} (h : ∀ n, 1 ≤ n → n ≤ 51 → it A x n ≠ some x) : ringFrom A x = none := by
  have : turns A x = none := by
    unfold turns
    rw [List.find?_eq_none]
    intro n hn
    have := List.mem_range.1 hn
    simpa using h (n + 1) (by omega) (by omega)
  unfold ringFrom; rw [this]; rfl
theorem find_range {p : Nat → Bool} : ∀ (N j : Nat), j < N → p j = true → (∀ i, i < j → p i = false) → (List.range N).find? p = some j
  | 0, j, hj, _, _ => by omega
  | N + 1, j, hj, hp, hn => by
    rw [List.range_succ, List.find?_append]
    by_cases h : j < N
    · rw [find_range N j h hp hn]; rfl
    · obtain rfl : j = N := by omega
      have : (List.range j).find? p = none := by
        rw [List.find?_eq_none]; intro i hi; rw [hn i (List.mem_range.1 hi)]; decide
      rw [this]; simp [hp]
theorem turns_some {A : St} {x : Int} {j : Nat} (hj : j ≤ 50) (h : it A x (j + 1) = some x) (hn : ∀ i, 1 ≤ i → i ≤ j → it A x i ≠ some x) : ringFrom A x = some (wayTo A x (j + 1)) := by
  have : turns A x = some j := find_range 51 j (by omega) (by simpa using h) fun i hi => by simpa using hn (i + 1) (by omega) (by omega)
  unfold ringFrom; rw [this]; rfl
/-- one for whom he does not wait in the end -/
theorem ring_stops {A : St} {x : Int} {j : Nat} (h : it A x (j + 1) = none) (hn : ∀ i, 1 ≤ i → i ≤ j → it A x i ≠ some x) : ringFrom A x = none := turns_none fun n h1 _ => by
  by_cases hj : n ≤ j
  · exact hn n h1 hj
  · have := it_none h (n - (j + 1))
    rw [show j + 1 + (n - (j + 1)) = n by omega] at this
    rw [this]; simp
theorem it_same {A : St} {x : Int} {i j : Nat} (h : it A x i = it A x j) : ∀ t, it A x (i + t) = it A x (j + t)
  | 0 => h
  | t + 1 => by rw [← Nat.add_assoc, ← Nat.add_assoc, it, it, it_same h t]
/-- a ring that he is not in -/
theorem ring_other {A : St} {x y : Int} {j : Nat} (h : it A x (j + 1) = some y) (hy : y ≠ x) (hm : y ∈ wayTo A x (j + 1)) (hn : ∀ i, 1 ≤ i → i ≤ j → it A x i ≠ some x) : ringFrom A x = none := by
  obtain ⟨i, hi, hiy⟩ := mem_way.1 hm
  have hi0 : i ≠ 0 := fun e => by subst e; exact hy (Option.some.inj hiy).symm
  have key : ∀ n, 1 ≤ n → it A x n ≠ some x := by
    intro n
    induction n using Nat.strongRecOn with
    | _ n ih =>
      intro h1
      by_cases hj : n ≤ j
      · exact hn n h1 hj
      · by_cases hj1 : n = j + 1
        · rw [hj1, h]; exact fun e => hy (Option.some.inj e)
        · have := it_same (A := A) (x := x) (i := i) (j := j + 1) (by rw [h, hiy]) (n - (j + 1))
          rw [show j + 1 + (n - (j + 1)) = n by omega] at this
          rw [← this]
          exact ih _ (by omega) (by omega)
  exact turns_none fun n h1 _ => key n h1

theorem ringTo_none_step {A : St} {n : Nat} (h : ringTo A n = none) (h2 : ringFrom A (n : Int) = none) : ringTo A (n + 1) = none := by
  unfold ringTo at h ⊢; rw [List.range_succ, List.findSome?_append, h]; simp [h2]
theorem ringTo_mono {A : St} {n : Nat} {l : List Int} (h : ringTo A n = some l) : ∀ m, ringTo A (n + m) = some l
  | 0 => h
  | m + 1 => by
    have := ringTo_mono h m
    unfold ringTo at this ⊢
    rw [← Nat.add_assoc, List.range_succ, List.findSome?_append, this]; rfl
theorem ring_found {A : St} {n : Nat} {l : List Int} (hn : n < 50) (h : ringTo A n = none) (h2 : ringFrom A (n : Int) = some l) : ring A = l := by
  have h3 : ringTo A (n + 1) = some l := by unfold ringTo at h ⊢; rw [List.range_succ, List.findSome?_append, h]; simp [h2]
  have := ringTo_mono h3 (50 - (n + 1))
  rw [show n + 1 + (50 - (n + 1)) = 50 by omega] at this
  unfold ring; rw [this]; rfl
theorem ring_never {A : St} (h : ringTo A 50 = none) : ring A = [] := by unfold ring; rw [h]; rfl

theorem nxt_range {A : St} {c : Nat} (hI : Inv A c) {x y : Int} (h : nxt A x = some y) : 0 ≤ y ∧ y < 50 := by
  unfold nxt at h
  obtain ⟨k, hk, rfl⟩ := Option.map_eq_some_iff.1 h
  exact hI.who k (hI.wt _ (waitsFor_mem hk)).2.2
theorem it_range {A : St} {c : Nat} (hI : Inv A c) {x : Int} (hx : 0 ≤ x ∧ x < 50) : ∀ {n : Nat} {y : Int}, it A x n = some y → 0 ≤ y ∧ y < 50
  | 0, y, h => by cases h; exact hx
  | n + 1, y, h => by
    rw [it] at h
    obtain ⟨z, _, h2⟩ := Option.bind_eq_some_iff.1 h
    exact nxt_range hI h2
theorem nodup_len : ∀ (n : Nat) (l : List Int), l.Nodup → (∀ x ∈ l, 0 ≤ x ∧ x < (n : Int)) → l.length ≤ n
  | 0, l, _, h => by
    cases l with
    | nil => simp
    | cons x l => have := h x List.mem_cons_self; omega
  | n + 1, l, hn, h => by
    have h2 := nodup_len n (l.erase (n : Int)) (hn.erase _) fun x hx => by
      have h3 := h x (List.mem_of_mem_erase hx)
      have : x ≠ (n : Int) := fun e => by subst e; exact (hn.mem_erase_iff.1 hx).1 rfl
      omega
    by_cases hm : (n : Int) ∈ l
    · rw [List.length_erase_of_mem hm] at h2; omega
    · rw [List.erase_of_not_mem hm] at h2; omega
end Go.Proofs.YtmfhmikihnjkcaaDoor.locks
