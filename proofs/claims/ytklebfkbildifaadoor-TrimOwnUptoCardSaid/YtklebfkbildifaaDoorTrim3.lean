/- What is never done: trim.left. Condition: the code is not long, and no jump leads outside. -/
import Derived.Test.YtklebfkbildifaaDoorFlow7
namespace Go.Proofs.YtklebfkbildifaaDoor.trims
open Go.RowKit Go.Proofs.YtklebfkbildifaaDoor.lib Go.Proofs.YtklebfkbildifaaDoor.errs Go.Proofs.YtklebfkbildifaaDoor.names Go.Proofs.YtklebfkbildifaaDoor.descs Go.Proofs.YtklebfkbildifaaDoor.ins Go.Proofs.YtklebfkbildifaaDoor.reach Go.Proofs.YtklebfkbildifaaDoor.flows

/-- is the instruction at a place left? -/
def kept (l : List I) (s : List Bool) (i : Nat) : Bool := match l[i]? with | none => false | some x => decide (s[i]? = some true) && (x.op != 1)
/-- how many are left ahead of a place -/
def placeOf (l : List I) (s : List Bool) (i : Nat) : Nat := ((List.range i).filter (kept l s)).length
def moved (l : List I) (s : List Bool) (x : I) : I := if jumpsOp x.op = true then { x with a := (placeOf l s x.a.toNat : Int) } else x
def mv (l : List I) (s : List Bool) (i : Nat) : I := match l[i]? with | none => ⟨0, 0, 0, .empty, .empty, .empty⟩ | some x => moved l s x
def trimTo (l : List I) (s : List Bool) (k : Nat) : List I := ((List.range k).filter (kept l s)).map (mv l s)
abbrev trimOf (l : List I) (s : List Bool) : List I := trimTo l s l.length

theorem kept_at {l : List I} {s : List Bool} {i : Nat} (h : i < l.length) : kept l s i = (decide (s[i]? = some true) && (l[i].op != 1)) := by unfold kept; rw [List.getElem?_eq_getElem h]
theorem place_zero (l : List I) (s : List Bool) : placeOf l s 0 = 0 := rfl
theorem place_succ (l : List I) (s : List Bool) (i : Nat) : placeOf l s (i + 1) = placeOf l s i + (if kept l s i = true then 1 else 0) := by
  unfold placeOf; rw [List.range_succ, List.filter_append, List.length_append]
  by_cases h : kept l s i = true
  · rw [if_pos h]; simp [h]
  · rw [if_neg h]; simp [h]
theorem place_le (l : List I) (s : List Bool) (i : Nat) : placeOf l s i ≤ i := by
  have := List.length_filter_le (kept l s) (List.range i); rwa [List.length_range] at this
theorem trim_len (l : List I) (s : List Bool) (k : Nat) : (trimTo l s k).length = placeOf l s k := by unfold trimTo placeOf; rw [List.length_map]
theorem trim_yes {l : List I} {s : List Bool} {k : Nat} (h : kept l s k = true) : trimTo l s (k + 1) = trimTo l s k ++ [mv l s k] := by
  unfold trimTo; rw [List.range_succ, List.filter_append, List.map_append]; simp [h]
theorem trim_no {l : List I} {s : List Bool} {k : Nat} (h : ¬ kept l s k = true) : trimTo l s (k + 1) = trimTo l s k := by
  unfold trimTo; rw [List.range_succ, List.filter_append, List.map_append]; simp [h]
theorem mv_at {l : List I} {s : List Bool} {k : Nat} (h : k < l.length) : mv l s k = moved l s l[k] := by unfold mv; rw [List.getElem?_eq_getElem h]
theorem moved_op (l : List I) (s : List Bool) (x : I) : (moved l s x).op = x.op := by unfold moved; split <;> rfl

/-- the instruction that is left at its new place -/
theorem trim_at {l : List I} {s : List Bool} {k : Nat} (h : kept l s k = true) : ∀ {n : Nat}, k < n → (trimTo l s n)[placeOf l s k]? = some (mv l s k)
  | 0, hn => by omega
  | n + 1, hn => by
    by_cases hk : k = n
    · subst hk
      rw [trim_yes h, ← trim_len, List.getElem?_append_right (Nat.le_refl _), Nat.sub_self]; rfl
    · have ih := trim_at h (n := n) (by omega)
      have hlt := (List.getElem?_eq_some_iff.1 ih).1
      by_cases hn2 : kept l s n = true
      · rw [trim_yes hn2, List.getElem?_append_left hlt]; exact ih
      · rw [trim_no hn2]; exact ih
/-- each that is left comes from a place -/
theorem trim_from {l : List I} {s : List Bool} : ∀ {n j : Nat}, j < placeOf l s n → ∃ k, k < n ∧ kept l s k = true ∧ placeOf l s k = j
  | 0, j, h => by rw [place_zero] at h; omega
  | n + 1, j, h => by
    by_cases hn : kept l s n = true
    · rw [place_succ, if_pos hn] at h
      by_cases hj : j = placeOf l s n
      · exact ⟨n, by omega, hn, hj.symm⟩
      · obtain ⟨k, h1, h2, h3⟩ := trim_from (l := l) (s := s) (n := n) (j := j) (by omega)
        exact ⟨k, by omega, h2, h3⟩
    · rw [place_succ, if_neg hn, Nat.add_zero] at h
      obtain ⟨k, h1, h2, h3⟩ := trim_from h
      exact ⟨k, by omega, h2, h3⟩

section
variable {l : List I} (h0 : codeFault l = 0)
include h0
/-- the places that can be come to -/
abbrev seenOf (l : List I) : List Bool := reached (succOf l) l.length [0]
theorem seen_at (k : Nat) : At (seenOf l) k ↔ Come (succOf l) [0] k := by
  obtain ⟨hR, hl, _⟩ := right_of h0
  exact reached_at (succ_lt hR) (fun k hk => by rw [List.mem_singleton.1 hk]; exact hl) k
theorem come_len {k : Nat} (h : Come (succOf l) [0] k) : k < l.length := by
  obtain ⟨hR, hl, _⟩ := right_of h0
  exact come_lt (succ_lt hR) (fun k hk => by rw [List.mem_singleton.1 hk]; exact hl) h
theorem kept_come {k : Nat} (h : kept l (seenOf l) k = true) : Come (succOf l) [0] k ∧ ∃ hk : k < l.length, l[k].op ≠ 1 := by
  unfold kept at h
  cases hx : l[k]? with
  | none => rw [hx] at h; cases h
  | some x =>
    rw [hx] at h
    simp only [Bool.and_eq_true, decide_eq_true_eq, bne_iff_ne] at h
    obtain ⟨hk, rfl⟩ := List.getElem?_eq_some_iff.1 hx
    exact ⟨(seen_at h0 k).1 h.1, hk, h.2⟩
theorem kept_of {k : Nat} (h : Come (succOf l) [0] k) (hk : k < l.length) (ho : l[k].op ≠ 1) : kept l (seenOf l) k = true := by
  rw [kept_at hk]
  have := (seen_at h0 k).2 h
  unfold At at this
  simp [this, ho]
omit h0 in
theorem nop_goes {k : Nat} (h : Come (succOf l) [0] k) (hk : k < l.length) (ho : l[k].op = 1) : Come (succOf l) [0] (k + 1) ∧ placeOf l (seenOf l) (k + 1) = placeOf l (seenOf l) k := by
  refine ⟨.step h ?_, ?_⟩
  · rw [succ_at hk]
    refine List.mem_map.2 ⟨(k : Int) + 1, ?_, by omega⟩
    unfold afterOf
    rw [ho]
    exact List.mem_append_left _ (by simp [endsOp])
  · rw [place_succ, if_neg]
    · rfl
    · rw [kept_at hk, ho]; simp
/-- from a place that can be come to, something is left further on -/
theorem place_lt : ∀ (d : Nat) {k : Nat}, l.length - k = d → Come (succOf l) [0] k → placeOf l (seenOf l) k < placeOf l (seenOf l) l.length
  | 0, k, hd, h => by have := come_len h0 h; omega
  | d + 1, k, hd, h => by
    have hk := come_len h0 h
    by_cases ho : l[k].op = 1
    · obtain ⟨h1, h2⟩ := nop_goes h hk ho
      rw [← h2]
      exact place_lt d (by omega) h1
    · have hkk := kept_of h0 h hk ho
      have := (List.getElem?_eq_some_iff.1 (trim_at hkk hk)).1
      rwa [trim_len] at this
theorem place_lt' {k : Nat} (h : Come (succOf l) [0] k) : placeOf l (seenOf l) k < (trimOf l (seenOf l)).length := by
  rw [trim_len]; exact place_lt h0 _ rfl h
theorem jump_come {k : Nat} (h : Come (succOf l) [0] k) (hk : k < l.length) (hj : jumpsOp l[k].op = true) : ∃ j : Nat, l[k].a = (j : Int) ∧ Come (succOf l) [0] j := by
  obtain ⟨hR, _, _⟩ := right_of h0
  by_cases hc : l[k].op = 14 ∨ l[k].a ≠ (k : Int) + 1
  · have hm : l[k].a ∈ afterOf l[k] k := by
      unfold afterOf
      exact List.mem_append_right _ (by rw [if_pos ⟨hj, hc⟩]; exact List.mem_singleton.2 rfl)
    have := hR k hk _ hm
    refine ⟨l[k].a.toNat, by omega, .step h ?_⟩
    rw [succ_at hk]
    exact List.mem_map.2 ⟨_, hm, rfl⟩
  · have ho : l[k].op ≠ 14 := fun e => hc (.inl e)
    have ha : l[k].a = (k : Int) + 1 := Classical.not_not.1 (fun e => hc (.inr e))
    refine ⟨k + 1, by omega, .step h ?_⟩
    rw [succ_at hk]
    refine List.mem_map.2 ⟨(k : Int) + 1, ?_, by omega⟩
    unfold afterOf
    refine List.mem_append_left _ ?_
    rw [if_neg]
    · exact List.mem_singleton.2 rfl
    · intro he; exact ho (ends_jumps he hj)

theorem all_ok : (∀ x ∈ l, insFault x = 0) ∧ l.length ≤ 40 := by
  refine ⟨?_, (right_of h0).2.2⟩
  have h := h0
  unfold codeFault at h
  by_cases h40 : 40 < l.length
  · rw [if_pos h40] at h; cases h
  · rw [if_neg h40] at h
    by_cases hb : badIns l = 0
    · exact bad_all hb
    · rw [if_pos hb] at h; exact absurd h hb
omit h0 in
theorem moved_fault {s : List Bool} {x : I} (h : insFault x = 0) (hp : placeOf l s x.a.toNat ≤ 40) : insFault (moved l s x) = 0 := by
  unfold moved
  by_cases hj : jumpsOp x.op = true
  · rw [if_pos hj]
    have ho : x.op = 12 ∨ x.op = 13 ∨ x.op = 14 := by simpa [jumpsOp, or_assoc] using hj
    have hA : needA x.op = true := by rcases ho with e | e | e <;> rw [e] <;> rfl
    unfold insFault at h ⊢
    simp only at h ⊢
    split at h
    · cases h
    · rename_i h1
      rw [if_neg h1]
      split at h
      · cases h
      · rename_i h2
        rw [if_neg (by simpa [bareOk, hA] using h2)]
        split at h
        · cases h
        · rename_i h3
          have hr : rangedOk x = true := by simpa using h3
          unfold rangedOk at hr
          rw [if_neg (by omega), if_neg (by omega), if_neg (by omega), if_pos hj] at hr
          have hr2 := of_decide_eq_true hr
          rw [if_neg]
          · exact h
          · unfold rangedOk
            simp only
            rw [if_neg (by omega), if_neg (by omega), if_neg (by omega), if_pos hj]
            simp; omega
  · rw [if_neg hj]; exact h

/-- the instruction that is left at a place, and where it comes from -/
theorem left_at {j : Nat} (hj : j < (trimOf l (seenOf l)).length) : ∃ k, ∃ hk : k < l.length, Come (succOf l) [0] k ∧ l[k].op ≠ 1 ∧ placeOf l (seenOf l) k = j ∧ (trimOf l (seenOf l))[j] = moved l (seenOf l) l[k] := by
  rw [trim_len] at hj
  obtain ⟨k, hk, hkk, hp⟩ := trim_from hj
  obtain ⟨hc, _, ho⟩ := kept_come h0 hkk
  have h1 := trim_at hkk hk
  rw [hp, mv_at hk] at h1
  exact ⟨k, hk, hc, ho, hp, (List.getElem?_eq_some_iff.1 h1).2⟩
theorem left_of {k : Nat} (hc : Come (succOf l) [0] k) (hk : k < l.length) (ho : l[k].op ≠ 1) : ∃ hj : placeOf l (seenOf l) k < (trimOf l (seenOf l)).length, (trimOf l (seenOf l))[placeOf l (seenOf l) k] = moved l (seenOf l) l[k] := by
  have h1 := trim_at (kept_of h0 hc hk ho) hk
  rw [mv_at hk] at h1
  exact List.getElem?_eq_some_iff.1 h1

omit h0 in
theorem bad_none : ∀ {m : List I}, (∀ x ∈ m, insFault x = 0) → badIns m = 0
  | [], _ => rfl
  | x :: m, h => by unfold badIns; rw [if_pos (h x List.mem_cons_self)]; exact bad_none fun y hy => h y (List.mem_cons_of_mem _ hy)
omit h0 in
theorem out_none {n : Nat} : ∀ {m : List I}, (∀ x ∈ m, jumpsOp x.op = true → x.a < (n : Int)) → jumpsOut n m = false
  | [], _ => rfl
  | x :: m, h => by
    unfold jumpsOut
    rw [if_neg]
    · exact out_none fun y hy => h y (List.mem_cons_of_mem _ hy)
    · rintro ⟨h1, h2⟩
      have := h x List.mem_cons_self h1
      omega

/-- what is left is right code -/
theorem trim_right : codeFault (trimOf l (seenOf l)) = 0 := by
  obtain ⟨hok, h40⟩ := all_ok h0
  have hl : (trimOf l (seenOf l)).length ≤ 40 := by rw [trim_len]; exact Nat.le_trans (place_le _ _ _) h40
  have hpos : 0 < (trimOf l (seenOf l)).length := by
    have := place_lt' h0 (.base (List.mem_singleton.2 rfl)); omega
  have hb : badIns (trimOf l (seenOf l)) = 0 := bad_none fun x hx => by
    obtain ⟨j, hj, rfl⟩ := List.mem_iff_getElem.1 hx
    obtain ⟨k, hk, hc, ho, _, he⟩ := left_at h0 hj
    rw [he]
    by_cases hjm : jumpsOp l[k].op = true
    · obtain ⟨a, ha, hca⟩ := jump_come h0 hc hk hjm
      refine moved_fault (hok _ (List.getElem_mem hk)) ?_
      rw [ha, Int.toNat_natCast]
      have := place_lt' h0 hca; omega
    · unfold moved; rw [if_neg hjm]; exact hok _ (List.getElem_mem hk)
  have ho : jumpsOut (trimOf l (seenOf l)).length (trimOf l (seenOf l)) = false := out_none fun x hx hjx => by
    obtain ⟨j, hj, rfl⟩ := List.mem_iff_getElem.1 hx
    obtain ⟨k, hk, hc, ho, _, he⟩ := left_at h0 hj
    rw [he, moved_op] at hjx
    obtain ⟨a, ha, hca⟩ := jump_come h0 hc hk hjx
    have h2 : (moved l (seenOf l) l[k]).a = (placeOf l (seenOf l) a : Int) := by
      unfold moved; rw [if_pos hjx]; simp only; rw [ha, Int.toNat_natCast]
    rw [he, h2]
    have := place_lt' h0 hca; omega
  have hE : lastEnds (trimOf l (seenOf l)) = true := by
    obtain ⟨m, hm⟩ : ∃ m, (trimOf l (seenOf l)).length = m + 1 := ⟨(trimOf l (seenOf l)).length - 1, by omega⟩
    obtain ⟨k, hk, hc, hop, hp, he⟩ := left_at h0 (j := m) (by omega)
    rw [last_at hm, he, moved_op]
    cases hends : endsOp l[k].op with
    | true => rfl
    | false =>
      exfalso
      have hc2 : Come (succOf l) [0] (k + 1) := .step hc (by
        rw [succ_at hk]
        refine List.mem_map.2 ⟨(k : Int) + 1, ?_, by omega⟩
        unfold afterOf
        exact List.mem_append_left _ (by rw [hends]; simp))
      have h3 := place_lt' h0 hc2
      rw [place_succ, if_pos (kept_of h0 hc hk hop), hp] at h3
      omega
  unfold codeFault
  rw [if_neg (by omega), if_neg (by rw [hb]; decide), if_neg (by rw [ho]; decide), if_pos hE]

/-- all that is left can be come to -/
theorem trim_come {k : Nat} (h : Come (succOf l) [0] k) : Come (succOf (trimOf l (seenOf l))) [0] (placeOf l (seenOf l) k) := by
  induction h with
  | base h1 =>
    rw [List.mem_singleton.1 h1]
    exact .base (List.mem_singleton.2 rfl)
  | step h1 hj ih =>
    rename_i i i'
    have hi := come_len h0 h1
    by_cases ho : l[i].op = 1
    · rw [succ_at hi] at hj
      obtain ⟨z, hz, rfl⟩ := List.mem_map.1 hj
      have hz1 : z = (i : Int) + 1 := by
        unfold afterOf at hz
        rw [ho] at hz
        simpa [endsOp, jumpsOp] using hz
      rw [hz1, show ((i : Int) + 1).toNat = i + 1 by omega, (nop_goes h1 hi ho).2]
      exact ih
    · obtain ⟨hp, he⟩ := left_of h0 h1 hi ho
      refine .step ih ?_
      rw [succ_at hp, he]
      rw [succ_at hi] at hj
      obtain ⟨z, hz, rfl⟩ := List.mem_map.1 hj
      have hkk := kept_of h0 h1 hi ho
      unfold afterOf at hz
      rcases List.mem_append.1 hz with hz | hz
      · cases hends : endsOp l[i].op with
        | true => rw [hends, if_pos rfl] at hz; cases hz
        | false =>
          rw [hends, if_neg (by decide)] at hz
          rw [List.mem_singleton.1 hz, show ((i : Int) + 1).toNat = i + 1 by omega, place_succ, if_pos hkk]
          refine List.mem_map.2 ⟨(placeOf l (seenOf l) i : Int) + 1, ?_, by omega⟩
          unfold afterOf
          refine List.mem_append_left _ ?_
          rw [moved_op, hends]; simp
      · split at hz
        · rename_i hc
          obtain ⟨a, ha, hca⟩ := jump_come h0 h1 hi hc.1
          rw [List.mem_singleton.1 hz, ha, Int.toNat_natCast]
          have hma : (moved l (seenOf l) l[i]).a = (placeOf l (seenOf l) a : Int) := by
            unfold moved; rw [if_pos hc.1]; simp only; rw [ha, Int.toNat_natCast]
          by_cases h14 : l[i].op = 14 ∨ (placeOf l (seenOf l) a : Int) ≠ (placeOf l (seenOf l) i : Int) + 1
          · refine List.mem_map.2 ⟨(placeOf l (seenOf l) a : Int), ?_, by omega⟩
            unfold afterOf
            refine List.mem_append_right _ ?_
            rw [moved_op, hma, if_pos ⟨hc.1, h14⟩]
            exact List.mem_singleton.2 rfl
          · have hn : l[i].op ≠ 14 := fun e => h14 (.inl e)
            have hq : (placeOf l (seenOf l) a : Int) = (placeOf l (seenOf l) i : Int) + 1 := Classical.not_not.1 (fun e => h14 (.inr e))
            refine List.mem_map.2 ⟨(placeOf l (seenOf l) i : Int) + 1, ?_, by omega⟩
            unfold afterOf
            refine List.mem_append_left _ ?_
            rw [moved_op, if_neg]
            · exact List.mem_singleton.2 rfl
            · intro hee; exact hn (ends_jumps hee hc.1)
        · cases hz
theorem trim_all {j : Nat} (hj : j < (trimOf l (seenOf l)).length) : Come (succOf (trimOf l (seenOf l))) [0] j := by
  obtain ⟨k, hk, hc, _, hp, _⟩ := left_at h0 hj
  rw [← hp]; exact trim_come h0 hc
theorem trim_nop {j : Nat} (hj : j < (trimOf l (seenOf l)).length) : (trimOf l (seenOf l))[j].op ≠ 1 := by
  obtain ⟨k, hk, _, ho, _, he⟩ := left_at h0 hj
  rw [he, moved_op]; exact ho
end

/-- where all is left nothing moves -/
theorem place_all {m : List I} {s : List Bool} (h : ∀ j, j < m.length → kept m s j = true) : ∀ j, j ≤ m.length → placeOf m s j = j
  | 0, _ => rfl
  | j + 1, hj => by rw [place_succ, if_pos (h j (by omega)), place_all h j (by omega)]
theorem trim_same {m : List I} (h : codeFault m = 0) (hall : ∀ j, j < m.length → Come (succOf m) [0] j) (hnop : ∀ j (hj : j < m.length), m[j].op ≠ 1) : trimOf m (seenOf m) = m := by
  have hk : ∀ j, j < m.length → kept m (seenOf m) j = true := fun j hj => kept_of h (hall j hj) hj (hnop j hj)
  have hp := place_all hk
  apply List.ext_getElem
  · rw [trim_len, hp _ (Nat.le_refl _)]
  · intro j h1 h2
    have := trim_at (hk j h2) h2
    rw [hp j (by omega), mv_at h2] at this
    have he := (List.getElem?_eq_some_iff.1 this).2
    rw [he]
    unfold moved
    by_cases hj : jumpsOp m[j].op = true
    · rw [if_pos hj]
      obtain ⟨a, ha, hca⟩ := jump_come h (hall j h2) h2 hj
      have hal := come_len h hca
      rw [ha, Int.toNat_natCast, hp a (by omega), ← ha]
    · rw [if_neg hj]
/-- trimmed code, trimmed again -/
theorem trim_twice {l : List I} (h0 : codeFault l = 0) : trimOf (trimOf l (seenOf l)) (seenOf (trimOf l (seenOf l))) = trimOf l (seenOf l) :=
  trim_same (trim_right h0) (fun _ hj => trim_all h0 hj) (fun _ hj => trim_nop h0 hj)
/-- all of trimmed code is told by flow.Reach -/
theorem trim_reach {l : List I} (h0 : codeFault l = 0) : (reachOf (trimOf l (seenOf l))).length = (trimOf l (seenOf l)).length := by
  have hr := trim_right h0
  unfold reachOf idxTo
  rw [List.filter_eq_self.2, List.length_range]
  intro j hj
  have := (seen_at hr j).2 (trim_all h0 (List.mem_range.1 hj))
  unfold At at this
  exact decide_eq_true this
end Go.Proofs.YtklebfkbildifaaDoor.trims

namespace Go.Proofs.YtklebfkbildifaaDoor.trims
open Go.RowKit Go.Proofs.YtklebfkbildifaaDoor.lib Go.Proofs.YtklebfkbildifaaDoor.errs Go.Proofs.YtklebfkbildifaaDoor.names Go.Proofs.YtklebfkbildifaaDoor.descs Go.Proofs.YtklebfkbildifaaDoor.ins Go.Proofs.YtklebfkbildifaaDoor.reach Go.Proofs.YtklebfkbildifaaDoor.flows

/-- the new places, as far as they are told -/
def plL (l : List I) (s : List Bool) (N k : Nat) : List Int := (List.range N).map fun i => if i < k then (placeOf l s i : Int) else 0
theorem plL_len (l : List I) (s : List Bool) (N k : Nat) : (plL l s N k).length = N := by simp [plL]
theorem plL_set {l : List I} {s : List Bool} {N k : Nat} (_h : k < N) : (plL l s N k).set k (placeOf l s k : Int) = plL l s N (k + 1) := by
  apply List.ext_getElem (by simp [plL])
  intro i h1 h2
  rw [List.getElem_set]
  simp only [plL, List.getElem_map, List.getElem_range]
  by_cases hk : k = i
  · subst hk; rw [if_pos rfl, if_pos (by omega)]
  · rw [if_neg hk]
    by_cases hi : i < k
    · rw [if_pos hi, if_pos (by omega)]
    · rw [if_neg hi, if_neg (by omega)]
theorem plL_zero (l : List I) (s : List Bool) (N : Nat) : (plL l s N 0).map (Value.int .i64) = List.replicate N (.int .i64 0) := by
  apply List.ext_getElem (by simp [plL])
  intro i h1 h2
  simp [plL]
def placesL (l : List I) (s : List Bool) : List Nat := (List.range (l.length + 1)).map (placeOf l s)
theorem placesL_len (l : List I) (s : List Bool) : (placesL l s).length = l.length + 1 := by simp [placesL]
theorem placesL_at {l : List I} {s : List Bool} {i : Nat} (h : i < (placesL l s).length) : (placesL l s)[i] = placeOf l s i := by simp [placesL]
theorem plL_all (l : List I) (s : List Bool) : (plL l s (l.length + 1) (l.length + 1)).map (Value.int .i64) = nats (placesL l s) := by
  apply List.ext_getElem (by simp [plL, nats, placesL])
  intro i h1 h2
  have : i < l.length + 1 := by simpa [plL] using h1
  simp [plL, nats, placesL, this]

set_option maxRecDepth 100000 in
set_option maxHeartbeats 4000000 in
theorem places_any (va vk : Value) (l : List I) (s : List Bool) (w : World) (ha : Go.Proofs.YtklebfkbildifaaDoor.flows.Code w va l) (hk : Sl w vk s.length 1 (bools s)) (hl : s.length = l.length) (hn : l.length ≤ 2000000) :
    Calls Tryd.prog 79 #[va, vk] w fun e w' => ∃ v, e = .returned v ∧ Out w w' 3 1 v (placesL l s).length (nats (placesL l s)) := by
  obtain ⟨a, c, rfl⟩ := ha.val
  obtain ⟨a2, c2, rfl⟩ := hk.val
  have HA := hid ha; have HK := hid hk
  have hmk := run_make_row' (P := Tryd.prog) 46 3 (.int .i64 0) 8 Tryd.underlying46 infoInt rfl .i64 .i64 (l.length + 1) (by omega) (by omega)
  rw [madeCells_one, show ((l.length + 1 : Nat) : Int) = (l.length : Int) + 1 by omega] at hmk
  have HO : Hid (Out w (w.alloc (.cells (Array.replicate (l.length + 1) (.int .i64 0)) 3)) 3 1 (.slice (some ⟨w.heap.size, 0, none⟩) (l.length + 1) (l.length + 1)) (l.length + 1) ((plL l s (l.length + 1) 0).map (.int .i64))) := hid (by
    rw [plL_zero]; exact Out.row w (.int .i64 0) 3 (l.length + 1) (by unfold maxLen; omega))
  clear ha hk
  go_enter Tryd.func79, Tryd.ntmps79
  go_wp2_with fail
  go_loopw [6, 15] (fun p i wr => ∃ k : Nat, k ≤ l.length ∧ p = .int .i64 (placeOf l s k : Nat) ∧ i = .int .i64 k ∧ Hid (Out w wr 3 1 (.slice (some ⟨w.heap.size, 0, none⟩) (l.length + 1) (l.length + 1)) (l.length + 1) ((plL l s (l.length + 1) k).map (.int .i64)))) (fun _ i _ => l.length - (intOf i).toNat)
  case atStart => exact ⟨0, Nat.zero_le _, rfl, rfl, HO⟩
  case round =>
    obtain ⟨k, hk, rfl, rfl, HR⟩ := hrel
    clear HO hmk
    have hple := place_le l s k
    by_cases hlt : k < l.length
    · obtain ⟨b, off, hab, hc0, hc1, hc2, hc3, hc4, hc5⟩ := code_at (HA.out.below HR.out.below) hlt
      subst hab
      have hks : k < s.length := by omega
      have hi : (0 : Int) ≤ (k : Int) := by omega
      have hkl : (k : Int) < (l.length : Int) := by omega
      have hkl1 : (k : Int) < (l.length : Int) + 1 := by omega
      have hkl2 : (k : Int) < (s.length : Int) := by omega
      have hkp := kept_at (s := s) hlt
      have HPS := hid (place_succ l s k)
      generalize l[k] = x at hc0 hc1 hc2 hc3 hc4 hc5 hkp
      obtain ⟨op, xa, xb, t, xc, xn⟩ := x
      obtain ⟨g0, cap0, u0, hv0, hg0, hcu, hfz, hset⟩ := HR.out.store (i := k) (by omega)
      simp only [Value.slice.injEq, Option.some.injEq, Addr.mk.injEq] at hv0
      obtain ⟨⟨rfl, _, _⟩, _, rfl⟩ := hv0
      have hso := (hset (.int .i64 (placeOf l s k : Nat))).alloc (.cells #[.int .i64 op, .int .i64 xa, .int .i64 xb, .string t, .string xc, .string xn] 33)
      rw [show ((plL l s (l.length + 1) k).map (Value.int .i64)).set k (.int .i64 (placeOf l s k : Nat)) = (plL l s (l.length + 1) (k + 1)).map (.int .i64) from by rw [← plL_set (by omega), List.map_set]] at hso
      have HSO := hid hso
      have hgl := (HR.out.own.lt _ rfl).2
      simp only at hgl
      obtain ⟨bx, ox, hax, u, hu, hcx⟩ := (HK.out.below HSO.out.below).at1 hks
      subst hax
      rw [bools_at hks] at hu
      obtain rfl := (Option.some.inj hu).symm
      clear hset hu hso
      cases hB : s[k] with
      | false =>
        rw [hB] at hcx
        have HP : Hid (placeOf l s (k + 1) = placeOf l s k) := hid (by rw [HPS.out, if_neg]; · rfl
                                                                       · rw [hkp, List.getElem?_eq_getElem hks, hB]; simp)
        clear hB hkp
        go_wp2
        go_roundw
        case rel => exact ⟨k + 1, by omega, by rw [HP.out], by go_num, HSO⟩
        case measure => simp [intOf]; omega
      | true =>
        rw [hB] at hcx
        by_cases ho : op = 1
        · subst ho
          have HP : Hid (placeOf l s (k + 1) = placeOf l s k) := hid (by rw [HPS.out, if_neg]; · rfl
                                                                         · rw [hkp]; simp)
          clear hB hkp
          go_wp2
          go_roundw
          case rel => exact ⟨k + 1, by omega, by rw [HP.out], by go_num, HSO⟩
          case measure => simp [intOf]; omega
        · have HP : Hid (placeOf l s (k + 1) = placeOf l s k + 1) := hid (by
            rw [HPS.out, if_pos]
            rw [hkp, List.getElem?_eq_getElem hks, hB]; simp [ho])
          have hob : (op == 1) = false := by simp [ho]
          have hom : (op != 1) = true := by simp [ho]
          clear hB hkp
          go_wp2
          go_roundw
          case rel => exact ⟨k + 1, by omega, by rw [HP.out]; go_num, by go_num, HSO⟩
          case measure => simp [intOf]; omega
    · obtain rfl : k = l.length := by omega
      obtain ⟨g0, cap0, u0, hv0, hg0, hcu, hfz, hset⟩ := HR.out.store (i := l.length) (by omega)
      simp only [Value.slice.injEq, Option.some.injEq, Addr.mk.injEq] at hv0
      obtain ⟨⟨rfl, _, _⟩, _, rfl⟩ := hv0
      have hso := hset (.int .i64 (placeOf l s l.length : Nat))
      rw [show ((plL l s (l.length + 1) l.length).map (Value.int .i64)).set l.length (.int .i64 (placeOf l s l.length : Nat)) = nats (placesL l s) from by rw [← plL_all, ← plL_set (by omega), List.map_set]] at hso
      have HSO := hid hso
      have HLN := hid (placesL_len l s)
      clear hset hso
      go_wp2
      go_ret
      exact ⟨_, rfl, by rw [HLN.out]; exact HSO.out⟩

end Go.Proofs.YtklebfkbildifaaDoor.trims

namespace Go.Proofs.YtklebfkbildifaaDoor.trims
open Go.RowKit Go.Proofs.YtklebfkbildifaaDoor.lib Go.Proofs.YtklebfkbildifaaDoor.errs Go.Proofs.YtklebfkbildifaaDoor.names Go.Proofs.YtklebfkbildifaaDoor.descs Go.Proofs.YtklebfkbildifaaDoor.ins Go.Proofs.YtklebfkbildifaaDoor.reach Go.Proofs.YtklebfkbildifaaDoor.flows

theorem infoOne : (Tryd.prog.info? 33).map (fun i => (i.zero, i.size, i.bytes)) = some (some (.agg #[.int .i64 0, .int .i64 0, .int .i64 0, .string { data := #[] }, .string { data := #[] }, .string { data := #[] }]), 6, 72) := by kernel_rfl
theorem cells_snoc (l : List I) (x : I) : cellsOf (l ++ [x]) = cellsOf l ++ x.cells := by simp [cellsOf, List.flatMap_append]
theorem place_mono (l : List I) (s : List Bool) (k : Nat) : placeOf l s k ≤ placeOf l s (k + 1) := by rw [place_succ]; omega

theorem _root_.Go.Proofs.YtklebfkbildifaaDoor.lib.Out.set_far {w0 w : World} {e : TypeId} {size : Nat} {v : Value} {n : Nat} {xs : List Value} (h : Out w0 w e size v n xs) (g i : Nat) (x : Value) (hne : ∀ k, v.ownBlock = some k → k ≠ g) (hb : w0.heap.size ≤ g) : Out w0 (w.setCell ⟨g, i, none⟩ x) e size v n xs := by
  refine ⟨h.own.kept (grown_set w ⟨g, i, none⟩ x) ?_, h.below.setCell hb x⟩
  cases hv : v.ownBlock with
  | none => exact .inl rfl
  | some k => exact .inr (fun e => hne k hv (Option.some.inj e))

theorem Out.bool_at {w0 w : World} {a : Option Addr} {n c : Nat} {s : List Bool} (h : Out w0 w 4 1 (.slice a n c) n (bools s)) {k : Nat} (hk : k < s.length) (hs : s.length = n) : ∃ b off, a = some ⟨b, off, none⟩ ∧ w.cell? ⟨b, off + k, none⟩ = some (.bool s[k]) := by
  obtain ⟨b, off, ha, u, hu, hc⟩ := h.sl.at1 (k := k) (by omega)
  rw [bools_at hk] at hu
  obtain rfl := Option.some.inj hu
  exact ⟨b, off, ha, hc⟩

set_option maxRecDepth 100000 in
set_option maxHeartbeats 8000000 in
theorem left_any (va vk : Value) (l : List I) (s : List Bool) (w : World) (ha : Go.Proofs.YtklebfkbildifaaDoor.flows.Code w va l) (hk : Sl w vk s.length 1 (bools s)) (hl : s.length = l.length) (hn : l.length ≤ 2000000) (hJ : ∀ x ∈ l, jumpsOp x.op = true → 0 ≤ x.a ∧ x.a ≤ (l.length : Int)) :
    Calls Tryd.prog 46 #[va, vk] w fun e w' => ∃ v v2, e = .returned (.tuple #[v, v2]) ∧ Out w w' 33 6 v (trimOf l s).length (cellsOf (trimOf l s)) ∧ Out w w' 3 1 v2 (placesL l s).length (nats (placesL l s)) := by
  have HPL := hid (places_any va vk l s w ha hk hl hn)
  obtain ⟨a, c, rfl⟩ := ha.val
  obtain ⟨a2, c2, rfl⟩ := hk.val
  have HA := hid ha; have HJ := hid hJ
  clear ha hk hJ hl
  go_enter Tryd.func46, Tryd.ntmps46
  go_wp2_with fail
  refine HPL.out.mono ?_
  rintro e w1 ⟨vp, rfl, hop⟩
  have HP := hid hop.sl
  have HPO := hid hop
  have HB1 := hid hop.below
  have hpl := placesL_len l s
  obtain ⟨a3, c3, rfl⟩ := hop.sl.val
  have HPL2 := hid hpl
  clear hop hpl
  go_wp2_with fail
  go_loopw [7, 15] (fun vt i wr => ∃ k : Nat, k ≤ l.length ∧ i = .int .i64 k ∧ Hid (Out w1 wr 33 6 vt (trimTo l s k).length (cellsOf (trimTo l s k)))) (fun _ i _ => l.length - (intOf i).toNat)
  case atStart => exact ⟨0, Nat.zero_le _, rfl, hid (Out.nil _ _ _)⟩
  case round =>
    obtain ⟨k, hk, rfl, HR⟩ := hrel
    by_cases hlt : k < l.length
    · obtain ⟨b, off, hab, hc0, hc1, hc2, hc3, hc4, hc5⟩ := code_at ((HA.out.below HB1.out).below HR.out.below) hlt
      subst hab
      have hi : (0 : Int) ≤ (k : Int) := by omega
      have hkl : (k : Int) < (l.length : Int) := by omega
      have hkx : (k : Int) < ((placesL l s).length : Int) := by rw [HPL2.out]; omega
      have hkx2 : (k : Int) + 1 < ((placesL l s).length : Int) := by rw [HPL2.out]; omega
      have hkx3 : (0 : Int) ≤ (k : Int) + 1 := by omega
      have k7 : ((k : Int) + 1).toNat = k + 1 := by omega
      have k8 : IntKind.i64.wrap ((k : Int) + 1) = (k : Int) + 1 := by rw [IntKind.wrap_i64]; omega
      have HJX := hid (HJ.out _ (List.getElem_mem hlt))
      have HMV := hid (mv_at (s := s) hlt)
      have HPS := hid (place_succ l s k)
      have hlen := trim_len l s k
      have hple := place_le l s k
      obtain ⟨av, cv, hvv⟩ := HR.out.sl.val
      subst hvv
      generalize l[k] = x at hc0 hc1 hc2 hc3 hc4 hc5 HJX HMV
      obtain ⟨op, xa, xb, t, xc, xn⟩ := x
      have HOA := hid (HR.out.alloc (.cells #[.int .i64 op, .int .i64 xa, .int .i64 xb, .string t, .string xc, .string xn] 33))
      obtain ⟨bp, op1, hap, hp0⟩ := ints_read (HP.out.below HOA.out.below) (k := k) (by rw [HPL2.out]; omega)
      subst hap
      obtain ⟨bp2, op2, hap2, hp1⟩ := ints_read (HP.out.below HOA.out.below) (k := k + 1) (by rw [HPL2.out]; omega)
      simp only [Option.some.injEq, Addr.mk.injEq] at hap2
      obtain ⟨rfl, rfl, _⟩ := hap2
      rw [placesL_at] at hp0 hp1
      have hlb : (trimTo l s k).length ≤ 2000000 := by omega
      by_cases hkk : kept l s k = true
      · have hps : placeOf l s (k + 1) = placeOf l s k + 1 := by rw [HPS.out, if_pos hkk]
        have HTY := hid (trim_yes hkk)
        rw [hps] at hp1
        generalize placeOf l s k = p at hp0 hp1
        have hne : (((p + 1 : Nat) : Int) == (p : Int)) = false := by simp; omega
        have hne2 : ¬ ((p + 1 : Nat) : Int) = (p : Int) := by omega
        clear hkk hps hlen hple
        go_wp2_with fail
        go_quiet (fail)
        go_wp2_with fail
        refine (jumps_any op _).mono ?_
        rintro e wj ⟨rfl, rfl⟩
        cases hj : jumpsOp op with
        | false =>
          have HMO : Hid (mv l s k = ⟨op, xa, xb, t, xc, xn⟩) := hid (by rw [HMV.out]; unfold moved; rw [if_neg (by rw [hj]; decide)])
          clear hj
          go_wp2_with (at_builtin; refine wpList_append_lit_b w1 _ _ _ rfl _ _ 22 rfl 33 _ 6 72 1 Tryd.underlying22 infoOne rfl (by decide) _ _ _ (HOA.out.later (below_drewN (Below.refl _ _) _)) rfl rfl ?_ rfl ?_ ?_ ?_ ?_)
          all_goals first | (intro v' w' ho hg _) | omega | (simp [Value.oneCell']; done) | skip
          have HO2 := hid (show Out w1 w' 33 6 v' (trimTo l s (k + 1)).length (cellsOf (trimTo l s (k + 1))) from by rw [HTY.out, List.length_append, cells_snoc, HMO.out]; exact ho)
          clear ho hg
          go_wp2
          go_roundw
          case rel => exact ⟨k + 1, by omega, by go_num, HO2⟩
          case measure => simp [intOf]; omega
        | true =>
          obtain ⟨hja0, hja1⟩ := HJX.out hj
          obtain ⟨j, rfl⟩ : ∃ j : Nat, xa = (j : Int) := ⟨xa.toNat, by omega⟩
          have HMO : Hid (mv l s k = ⟨op, (placeOf l s j : Int), xb, t, xc, xn⟩) := hid (by rw [HMV.out]; unfold moved; rw [if_pos hj]; simp)
          obtain ⟨bp3, op3, hap3, hpj⟩ := ints_read ((HP.out.below HOA.out.below).below (below_drewN (Below.refl _ _) nq)) (k := j) (by rw [HPL2.out]; omega)
          simp only [Option.some.injEq, Addr.mk.injEq] at hap3
          obtain ⟨rfl, rfl, _⟩ := hap3
          rw [placesL_at] at hpj
          have hjx : (j : Int) < ((placesL l s).length : Int) := by rw [HPL2.out]; omega
          generalize placeOf l s j = q at hpj HMO
          clear hj hja1
          have HFAR := hid (HOA.out.later (below_drewN (Below.refl _ _) nq) |>.set_far wr.heap.size 1 (.int .i64 (q : Int)) (fun k' hk' => by have := (HR.out.own.lt k' hk').2; omega) HR.out.below.size)
          go_wp2_with (at_builtin; refine wpList_append_lit_b w1 _ _ _ rfl _ _ 22 rfl 33 _ 6 72 1 Tryd.underlying22 infoOne rfl (by decide) _ _ _ HFAR.out rfl rfl ?_ rfl ?_ ?_ ?_ ?_)
          all_goals first | (intro v' w' ho hg _) | omega | (simp [Value.oneCell']; done) | skip
          have HO2 := hid (show Out w1 w' 33 6 v' (trimTo l s (k + 1)).length (cellsOf (trimTo l s (k + 1))) from by rw [HTY.out, List.length_append, cells_snoc, HMO.out]; exact ho)
          clear ho hg
          go_wp2
          go_roundw
          case rel => exact ⟨k + 1, by omega, by go_num, HO2⟩
          case measure => simp [intOf]; omega
      · have hps : placeOf l s (k + 1) = placeOf l s k := by rw [HPS.out, if_neg hkk]; rfl
        have HTN := hid (trim_no hkk)
        rw [hps] at hp1
        generalize placeOf l s k = p at hp0 hp1
        clear hkk hps hlen hple
        go_wp2_with fail
        go_quiet (fail)
        go_wp2
        go_roundw
        case rel => exact ⟨k + 1, by omega, by go_num, hid (by rw [HTN.out]; exact HOA.out.later (below_drewN (Below.refl _ _) _))⟩
        case measure => simp [intOf]; omega
    · obtain rfl : k = l.length := by omega
      have HX := hid (Out.since HB1.out HR.out)
      have HX2 := hid (HPO.out.later HR.out.below)
      obtain ⟨at1, ct1, rfl⟩ := HR.out.sl.val
      clear HR
      go_wp2
      go_ret2
      exact ⟨_, _, rfl, HX.out, HX2.out⟩

end Go.Proofs.YtklebfkbildifaaDoor.trims
