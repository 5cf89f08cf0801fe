/- Locks: what holds of them, and what their calls do. Plain; no condition. -/
import Derived.Test.YtmfhmikihnjkcaaDoorMap
namespace Go.Proofs.YtmfhmikihnjkcaaDoor.locks
open Go.RowKit Go.Proofs.YtmfhmikihnjkcaaDoor.lib Go.Proofs.YtmfhmikihnjkcaaDoor.maps

/-- who has each thing and how often, and who waits for what -/
structure St where
  who : Int → Int
  times : Int → Int
  waits : List (Int × Int)
def upd (f : Int → Int) (k v : Int) : Int → Int := fun j => if j = k then v else f j
theorem upd_same (f : Int → Int) (k v : Int) : upd f k v k = v := by simp [upd]
theorem upd_other (f : Int → Int) {k j : Int} (v : Int) (h : j ≠ k) : upd f k v j = f j := by simp [upd, h]
def St.new : St := ⟨fun _ => 0, fun _ => 0, []⟩
def waitsFor (A : St) (x : Int) : Option Int := (A.waits.find? fun q => decide (q.1 = x)).map (·.2)
def waiting (A : St) (k : Int) : List Int := (A.waits.filter fun q => decide (q.2 = k)).map (·.1)
def fault (A : St) (x k : Int) : Int := if x < 0 ∨ k < 0 ∨ 50 ≤ x ∨ 50 ≤ k then 2 else if (waitsFor A x).isSome = true then 5 else 0
/-- another has it -/
def held (A : St) (x k : Int) : Prop := 0 < A.times k ∧ A.who k ≠ x
instance (A : St) (x k : Int) : Decidable (held A x k) := inferInstanceAs (Decidable (_ ∧ _))
def waitSt (A : St) (x k : Int) : St := { A with waits := A.waits ++ [(x, k)] }
def takeSt (A : St) (x k : Int) : St := { A with who := upd A.who k x, times := upd A.times k (A.times k + 1) }
def enterSt (A : St) (x k : Int) : St := if fault A x k ≠ 0 then A else if held A x k then waitSt A x k else takeSt A x k
def enterOk (A : St) (x k : Int) : Bool := decide (fault A x k = 0 ∧ ¬ held A x k)
def leaveFault (A : St) (x k : Int) : Int := if fault A x k ≠ 0 then fault A x k else if A.times k = 0 ∨ A.who k ≠ x then 3 else 0
def lessSt (A : St) (k : Int) : St := { A with times := upd A.times k (A.times k - 1) }
def nextSt (A : St) (k y : Int) : St := ⟨upd A.who k y, upd A.times k 1, A.waits.eraseP fun q => decide (q.2 = k)⟩
def leaveSt (A : St) (x k : Int) : St :=
  if leaveFault A x k ≠ 0 then A else if 1 < A.times k then lessSt A k else match waiting A k with
    | [] => lessSt A k
    | y :: _ => nextSt A k y

/-- what holds of them after so many calls -/
structure Inv (A : St) (c : Nat) : Prop where
  t0 : ∀ k, 0 ≤ A.times k ∧ A.times k ≤ c
  out : ∀ k, ¬ (0 ≤ k ∧ k < 50) → A.times k = 0
  who : ∀ k, 0 < A.times k → 0 ≤ A.who k ∧ A.who k < 50
  wt : ∀ q ∈ A.waits, (0 ≤ q.1 ∧ q.1 < 50) ∧ (0 ≤ q.2 ∧ q.2 < 50) ∧ 0 < A.times q.2
  nd : (A.waits.map (·.1)).Nodup
  len : A.waits.length ≤ c
theorem inv_new : Inv St.new 0 where
  t0 := fun _ => ⟨Int.le_refl _, Int.le_refl _⟩
  out := fun _ _ => rfl
  who := fun _ h => absurd h (by unfold St.new; simp)
  wt := fun q h => by unfold St.new at h; cases h
  nd := by unfold St.new; simp
  len := by unfold St.new; simp
theorem Inv.mono {A : St} {c d : Nat} (h : Inv A c) (hcd : c ≤ d) : Inv A d := ⟨fun k => ⟨(h.t0 k).1, by have := (h.t0 k).2; omega⟩, h.out, h.who, h.wt, h.nd, Nat.le_trans h.len hcd⟩

theorem waitsFor_none {A : St} {x : Int} : waitsFor A x = none ↔ ∀ q ∈ A.waits, q.1 ≠ x := by
  unfold waitsFor
  rw [Option.map_eq_none_iff, List.find?_eq_none]
  simp
theorem waitsFor_mem {A : St} {x k : Int} (h : waitsFor A x = some k) : (x, k) ∈ A.waits := by
  unfold waitsFor at h
  obtain ⟨q, hq, rfl⟩ := Option.map_eq_some_iff.1 h
  have h1 := List.find?_some hq
  have h2 := List.mem_of_find?_eq_some hq
  simp at h1
  rw [← h1]; exact h2
theorem find_of_mem {l : List (Int × Int)} (hn : (l.map (·.1)).Nodup) {x k : Int} (h : (x, k) ∈ l) : (l.find? fun q => decide (q.1 = x)) = some (x, k) := by
  induction l with
  | nil => cases h
  | cons q l ih =>
    rw [List.map_cons, List.nodup_cons] at hn
    rw [List.find?_cons]
    rcases List.mem_cons.1 h with rfl | hm
    · simp
    · have : ¬ q.1 = x := fun e => hn.1 (by rw [e]; exact List.mem_map.2 ⟨_, hm, rfl⟩)
      simp only [this, decide_false]
      exact ih hn.2 hm
theorem waitsFor_of {A : St} {c : Nat} (hI : Inv A c) {x k : Int} (h : (x, k) ∈ A.waits) : waitsFor A x = some k := by
  unfold waitsFor; rw [find_of_mem hI.nd h]; rfl
theorem mem_waiting {A : St} {x k : Int} : x ∈ waiting A k ↔ (x, k) ∈ A.waits := by
  unfold waiting
  simp only [List.mem_map, List.mem_filter, decide_eq_true_eq]
  constructor
  · rintro ⟨q, ⟨h1, h2⟩, rfl⟩; rw [← h2]; exact h1
  · intro h; exact ⟨_, ⟨h, rfl⟩, rfl⟩
theorem waiting_len {A : St} {c : Nat} (hI : Inv A c) (k : Int) : (waiting A k).length ≤ c := by
  unfold waiting; rw [List.length_map]
  exact Nat.le_trans (List.length_filter_le _ _) hI.len
theorem waiting_zero {A : St} {c : Nat} (hI : Inv A c) {k : Int} (h : A.times k = 0) : waiting A k = [] := by
  apply List.eq_nil_iff_forall_not_mem.2
  intro x hx
  have := (hI.wt _ (mem_waiting.1 hx)).2.2
  simp only at this
  omega

/-! a call more -/
theorem fault_range {A : St} {x k : Int} (h : x < 0 ∨ k < 0 ∨ 50 ≤ x ∨ 50 ≤ k) : fault A x k = 2 := by unfold fault; rw [if_pos h]
theorem fault_twice {A : St} {x k y : Int} (h : ¬ (x < 0 ∨ k < 0 ∨ 50 ≤ x ∨ 50 ≤ k)) (hw : waitsFor A x = some y) : fault A x k = 5 := by unfold fault; rw [if_neg h, if_pos (by rw [hw]; rfl)]
theorem fault_no {A : St} {x k : Int} (h : ¬ (x < 0 ∨ k < 0 ∨ 50 ≤ x ∨ 50 ≤ k)) (hw : waitsFor A x = none) : fault A x k = 0 := by unfold fault; rw [if_neg h, if_neg (by rw [hw]; decide)]
theorem fault_zero {A : St} {x k : Int} (h : fault A x k = 0) : (0 ≤ x ∧ x < 50) ∧ (0 ≤ k ∧ k < 50) ∧ waitsFor A x = none := by
  unfold fault at h
  split at h
  · cases h
  · split at h
    · cases h
    · rename_i h1 h2
      refine ⟨by omega, by omega, ?_⟩
      simpa using h2

theorem waiting_wait (A : St) (x k j : Int) : waiting (waitSt A x k) j = if j = k then waiting A j ++ [x] else waiting A j := by
  unfold waiting waitSt
  rw [List.filter_append, List.map_append]
  by_cases h : j = k
  · subst h; simp
  · rw [if_neg h]
    have : ¬ k = j := fun e => h e.symm
    simp [this]
theorem waitsFor_wait {A : St} {x k : Int} (hw : waitsFor A x = none) (y : Int) : waitsFor (waitSt A x k) y = if y = x then some k else waitsFor A y := by
  unfold waitsFor waitSt
  rw [List.find?_append]
  by_cases h : y = x
  · subst h
    unfold waitsFor at hw
    rw [Option.map_eq_none_iff] at hw
    simp [hw]
  · have : ¬ x = y := fun e => h e.symm
    simp [h, this]
theorem waiting_take (A : St) (x k j : Int) : waiting (takeSt A x k) j = waiting A j := rfl
theorem waitsFor_take (A : St) (x k y : Int) : waitsFor (takeSt A x k) y = waitsFor A y := rfl
theorem waiting_less (A : St) (k j : Int) : waiting (lessSt A k) j = waiting A j := rfl
theorem waitsFor_less (A : St) (k y : Int) : waitsFor (lessSt A k) y = waitsFor A y := rfl

theorem filter_erase (l : List (Int × Int)) (k j : Int) : ((l.eraseP fun q => decide (q.2 = k)).filter fun q => decide (q.2 = j)) = if j = k then (l.filter fun q => decide (q.2 = k)).tail else l.filter fun q => decide (q.2 = j) := by
  induction l with
  | nil => simp
  | cons q l ih =>
    rw [List.eraseP_cons]
    by_cases hq : q.2 = k
    · by_cases hj : j = k
      · subst hj; simp [hq]
      · have : ¬ k = j := fun e => hj e.symm
        simp [hq, hj, this]
    · by_cases hj : j = k
      · subst hj
        simp [hq]
        simpa using ih
      · simp only [hq, decide_false, cond_false, hj, if_false] at ih ⊢
        rw [List.filter_cons, List.filter_cons, ih]
theorem waiting_next (A : St) (k y j : Int) : waiting (nextSt A k y) j = if j = k then (waiting A k).tail else waiting A j := by
  unfold waiting nextSt
  simp only [filter_erase]
  split
  · rw [List.map_tail]
  · rfl
theorem find_erase {l : List (Int × Int)} (hn : (l.map (·.1)).Nodup) {k y : Int} {r : List Int} (h : (l.filter fun q => decide (q.2 = k)).map (·.1) = y :: r) (x : Int) :
    ((l.eraseP fun q => decide (q.2 = k)).find? fun q => decide (q.1 = x)) = if x = y then none else l.find? fun q => decide (q.1 = x) := by
  induction l with
  | nil => simp at h
  | cons q l ih =>
    rw [List.map_cons, List.nodup_cons] at hn
    rw [List.eraseP_cons]
    by_cases hq : q.2 = k
    · simp only [List.filter_cons, hq, decide_true, if_true, List.map_cons, List.cons.injEq] at h
      simp only [hq, decide_true, cond_true]
      by_cases hx : x = y
      · subst hx
        rw [if_pos rfl, List.find?_eq_none]
        intro z hz
        have : ¬ z.1 = x := fun e => hn.1 (by rw [h.1, ← e]; exact List.mem_map.2 ⟨z, hz, rfl⟩)
        simp [this]
      · have : ¬ q.1 = x := fun e => hx (by rw [← e, h.1])
        simp [hx, this]
    · simp only [List.filter_cons, hq, decide_false, Bool.false_eq_true, if_false] at h
      have hi := ih hn.2 h
      simp only [hq, decide_false, cond_false]
      rw [List.find?_cons, List.find?_cons, hi]
      by_cases hqx : q.1 = x
      · have hxy : ¬ x = y := by
          intro e
          have : y ∈ (l.filter fun q => decide (q.2 = k)).map (·.1) := by rw [h]; exact List.mem_cons_self
          obtain ⟨z, hz, hzy⟩ := List.mem_map.1 this
          exact hn.1 (by rw [hqx, e, ← hzy]; exact List.mem_map.2 ⟨z, (List.mem_filter.1 hz).1, rfl⟩)
        simp [hqx, hxy]
      · simp [hqx]
theorem waitsFor_next {A : St} {c : Nat} (hI : Inv A c) {k y : Int} {r : List Int} (h : waiting A k = y :: r) (x : Int) : waitsFor (nextSt A k y) x = if x = y then none else waitsFor A x := by
  unfold waitsFor nextSt
  simp only [find_erase hI.nd h]
  split <;> rfl

theorem inv_wait {A : St} {c : Nat} (hI : Inv A c) {x k : Int} (h : fault A x k = 0) (hh : held A x k) : Inv (waitSt A x k) (c + 1) := by
  obtain ⟨h1, h2, h3⟩ := fault_zero h
  refine ⟨fun j => ⟨(hI.t0 j).1, by have := (hI.t0 j).2; show A.times j ≤ _; omega⟩, hI.out, hI.who, fun q hq => ?_, ?_, ?_⟩
  · rcases List.mem_append.1 hq with h4 | h4
    · exact hI.wt q h4
    · rw [List.mem_singleton.1 h4]; exact ⟨h1, h2, hh.1⟩
  · unfold waitSt
    rw [List.map_append, List.nodup_append]
    refine ⟨hI.nd, by simp, fun a ha b hb => ?_⟩
    simp at hb
    subst hb
    rintro rfl
    obtain ⟨q, hq, e⟩ := List.mem_map.1 ha
    exact waitsFor_none.1 h3 q hq e
  · unfold waitSt; rw [List.length_append]; have := hI.len; simp; omega
theorem inv_take {A : St} {c : Nat} (hI : Inv A c) {x k : Int} (h : fault A x k = 0) : Inv (takeSt A x k) (c + 1) := by
  obtain ⟨h1, h2, h3⟩ := fault_zero h
  have hk := hI.t0 k
  refine ⟨fun j => ?_, fun j hj => ?_, fun j hj => ?_, fun q hq => ?_, hI.nd, Nat.le_trans hI.len (Nat.le_succ _)⟩
  · have := hI.t0 j
    by_cases e : j = k
    · subst e; simp only [takeSt, upd_same]; omega
    · simp only [takeSt, upd_other _ _ e]; omega
  · have : j ≠ k := fun e => hj (by rw [e]; exact h2)
    simp only [takeSt, upd_other _ _ this]; exact hI.out j hj
  · by_cases e : j = k
    · subst e; simp only [takeSt, upd_same]; exact h1
    · simp only [takeSt, upd_other _ _ e] at hj ⊢; exact hI.who j hj
  · obtain ⟨a, b, d⟩ := hI.wt q hq
    refine ⟨a, b, ?_⟩
    by_cases e : q.2 = k
    · simp only [takeSt, e, upd_same]; omega
    · simp only [takeSt, upd_other _ _ e]; exact d
theorem inv_enter {A : St} {c : Nat} (hI : Inv A c) (x k : Int) : Inv (enterSt A x k) (c + 1) := by
  unfold enterSt
  by_cases h : fault A x k ≠ 0
  · rw [if_pos h]; exact hI.mono (Nat.le_succ _)
  · rw [if_neg h]
    have h0 : fault A x k = 0 := Classical.not_not.1 h
    split
    · rename_i hh; exact inv_wait hI h0 hh
    · exact inv_take hI h0
theorem leave_zero {A : St} {x k : Int} (h : leaveFault A x k = 0) : fault A x k = 0 ∧ A.times k ≠ 0 ∧ A.who k = x := by
  unfold leaveFault at h
  by_cases hf : fault A x k = 0
  · rw [if_neg (fun e => e hf)] at h
    split at h
    · cases h
    · rename_i h1; exact ⟨hf, fun e => h1 (.inl e), Classical.not_not.1 fun e => h1 (.inr e)⟩
  · rw [if_pos hf] at h; exact absurd h hf
theorem inv_less {A : St} {c : Nat} (hI : Inv A c) {k : Int} (h0 : 0 < A.times k) (h : 1 < A.times k ∨ waiting A k = []) : Inv (lessSt A k) (c + 1) := by
  refine ⟨fun j => ?_, fun j hj => ?_, fun j hj => ?_, fun q hq => ?_, hI.nd, Nat.le_trans hI.len (Nat.le_succ _)⟩
  · have := hI.t0 j
    by_cases e : j = k
    · subst e; simp only [lessSt, upd_same]; omega
    · simp only [lessSt, upd_other _ _ e]; omega
  · have : j ≠ k := fun e => by have := hI.out j hj; rw [e] at this; omega
    simp only [lessSt, upd_other _ _ this]; exact hI.out j hj
  · by_cases e : j = k
    · subst e; exact hI.who j h0
    · simp only [lessSt, upd_other _ _ e] at hj ⊢; exact hI.who j hj
  · obtain ⟨a, b, d⟩ := hI.wt q hq
    refine ⟨a, b, ?_⟩
    by_cases e : q.2 = k
    · simp only [lessSt, e, upd_same]
      rcases h with h | h
      · omega
      · have : q.1 ∈ waiting A k := mem_waiting.2 (by rw [← e]; exact hq)
        rw [h] at this; cases this
    · simp only [lessSt, upd_other _ _ e]; exact d
theorem inv_next {A : St} {c : Nat} (hI : Inv A c) {k y : Int} {r : List Int} (h : waiting A k = y :: r) : Inv (nextSt A k y) (c + 1) := by
  have hy : (y, k) ∈ A.waits := mem_waiting.1 (by rw [h]; exact List.mem_cons_self)
  obtain ⟨hy1, hy2, hy3⟩ := hI.wt _ hy
  simp only at hy1 hy2 hy3
  have hsub : (nextSt A k y).waits.Sublist A.waits := List.eraseP_sublist
  refine ⟨fun j => ?_, fun j hj => ?_, fun j hj => ?_, fun q hq => ?_, ?_, ?_⟩
  · have := hI.t0 j
    by_cases e : j = k
    · subst e; simp only [nextSt, upd_same]; omega
    · simp only [nextSt, upd_other _ _ e]; omega
  · have : j ≠ k := fun e => hj (by rw [e]; exact hy2)
    simp only [nextSt, upd_other _ _ this]; exact hI.out j hj
  · by_cases e : j = k
    · subst e; simp only [nextSt, upd_same]; exact hy1
    · simp only [nextSt, upd_other _ _ e] at hj ⊢; exact hI.who j hj
  · obtain ⟨a, b, d⟩ := hI.wt q (hsub.subset hq)
    refine ⟨a, b, ?_⟩
    by_cases e : q.2 = k
    · simp only [nextSt, e, upd_same]; omega
    · simp only [nextSt, upd_other _ _ e]; exact d
  · exact List.Sublist.nodup (hsub.map _) hI.nd
  · exact Nat.le_trans hsub.length_le (Nat.le_trans hI.len (Nat.le_succ _))
theorem inv_leave {A : St} {c : Nat} (hI : Inv A c) (x k : Int) : Inv (leaveSt A x k) (c + 1) := by
  unfold leaveSt
  by_cases h : leaveFault A x k ≠ 0
  · rw [if_pos h]; exact hI.mono (Nat.le_succ _)
  · rw [if_neg h]
    obtain ⟨_, h1, _⟩ := leave_zero (Classical.not_not.1 h)
    have := hI.t0 k
    split
    · rename_i h2; exact inv_less hI (by omega) (.inl h2)
    · split
      · rename_i h2; exact inv_less hI (by omega) (.inr h2)
      · rename_i h2; exact inv_next hI h2
end Go.Proofs.YtmfhmikihnjkcaaDoor.locks
