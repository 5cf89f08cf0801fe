/- What is never done: what is left of code, and that it is right code of which all can be reached. Plain; condition: the code is right. -/
import Derived.Test.YtdnnnjedobknhaaDoorFlow7
namespace Go.Proofs.YtdnnnjedobknhaaDoor.trims
open Go.RowKit Go.Proofs.YtdnnnjedobknhaaDoor.lib Go.Proofs.YtdnnnjedobknhaaDoor.errs Go.Proofs.YtdnnnjedobknhaaDoor.names Go.Proofs.YtdnnnjedobknhaaDoor.descs Go.Proofs.YtdnnnjedobknhaaDoor.ins Go.Proofs.YtdnnnjedobknhaaDoor.reach Go.Proofs.YtdnnnjedobknhaaDoor.flows

/-- is the instruction at a place left? -/
def kept (l : List I) (s : List Bool) (i : Nat) : Bool := match l[i]? with | none => false | some x => decide (s[i]? = some true) && (x.op != 1)
/-- how many are left ahead of a place -/
def placeOf (l : List I) (s : List Bool) (i : Nat) : Nat := ((List.range i).filter (kept l s)).length
def moved (l : List I) (s : List Bool) (x : I) : I := if jumpsOp x.op = true then { x with a := (placeOf l s x.a.toNat : Int) } else x
def mv (l : List I) (s : List Bool) (i : Nat) : I := match l[i]? with | none => ⟨0, 0, 0, .empty, .empty, .empty⟩ | some x => moved l s x
def trimTo (l : List I) (s : List Bool) (k : Nat) : List I := ((List.range k).filter (kept l s)).map (mv l s)
abbrev trimOf (l : List I) (s : List Bool) : List I := trimTo l s l.length

theorem kept_at {l : List I} {s : List Bool} {i : Nat} (h : i < l.length) : kept l s i = (decide (s[i]? = some true) && (l[i].op != 1)) := by unfold kept; rw [List.getElem?_eq_getElem h]
theorem place_zero (l : List I) (s : List Bool) : placeOf l s 0 = 0 := rfl
theorem place_succ (l : List I) (s : List Bool) (i : Nat) : placeOf l s (i + 1) = placeOf l s i + (if kept l s i = true then 1 else 0) := by
  unfold placeOf; rw [List.range_succ, List.filter_append, List.length_append]
  by_cases h : kept l s i = true
  · rw [if_pos h]; simp [h]
  · rw [if_neg h]; simp [h]
theorem place_le (l : List I) (s : List Bool) (i : Nat) : placeOf l s i ≤ i := by
  have := List.length_filter_le (kept l s) (List.range i); rwa [List.length_range] at this
theorem trim_len (l : List I) (s : List Bool) (k : Nat) : (trimTo l s k).length = placeOf l s k := by unfold trimTo placeOf; rw [List.length_map]
theorem trim_yes {l : List I} {s : List Bool} {k : Nat} (h : kept l s k = true) : trimTo l s (k + 1) = trimTo l s k ++ [mv l s k] := by
  unfold trimTo; rw [List.range_succ, List.filter_append, List.map_append]; simp [h]
theorem trim_no {l : List I} {s : List Bool} {k : Nat} (h : ¬ kept l s k = true) : trimTo l s (k + 1) = trimTo l s k := by
  unfold trimTo; rw [List.range_succ, List.filter_append, List.map_append]; simp [h]
theorem mv_at {l : List I} {s : List Bool} {k : Nat} (h : k < l.length) : mv l s k = moved l s l[k] := by unfold mv; rw [List.getElem?_eq_getElem h]
theorem moved_op (l : List I) (s : List Bool) (x : I) : (moved l s x).op = x.op := by unfold moved; split <;> rfl

/-- the instruction that is left at its new place -/
theorem trim_at {l : List I} {s : List Bool} {k : Nat} (h : kept l s k = true) : ∀ {n : Nat}, k < n → (trimTo l s n)[placeOf l s k]? = some (mv l s k)
  | 0, hn => by omega
  | n + 1, hn => by
    by_cases hk : k = n
    · subst hk
      rw [trim_yes h, ← trim_len, List.getElem?_append_right (Nat.le_refl _), Nat.sub_self]; rfl
    · have ih := trim_at h (n := n) (by omega)
      have hlt := (List.getElem?_eq_some_iff.1 ih).1
      by_cases hn2 : kept l s n = true
      · rw [trim_yes hn2, List.getElem?_append_left hlt]; exact ih
      · rw [trim_no hn2]; exact ih
/-- each that is left comes from a place -/
theorem trim_from {l : List I} {s : List Bool} : ∀ {n j : Nat}, j < placeOf l s n → ∃ k, k < n ∧ kept l s k = true ∧ placeOf l s k = j
  | 0, j, h => by rw [place_zero] at h; omega
  | n + 1, j, h => by
    by_cases hn : kept l s n = true
    · rw [place_succ, if_pos hn] at h
      by_cases hj : j = placeOf l s n
      · exact ⟨n, by omega, hn, hj.symm⟩
      · obtain ⟨k, h1, h2, h3⟩ := trim_from (l := l) (s := s) (n := n) (j := j) (by omega)
        exact ⟨k, by omega, h2, h3⟩
    · rw [place_succ, if_neg hn, Nat.add_zero] at h
      obtain ⟨k, h1, h2, h3⟩ := trim_from h
      exact ⟨k, by omega, h2, h3⟩

section
variable {l : List I} (h0 : codeFault l = 0)
include h0
/-- the places that can be come to -/
abbrev seenOf (l : List I) : List Bool := reached (succOf l) l.length [0]
theorem seen_at (k : Nat) : At (seenOf l) k ↔ Come (succOf l) [0] k := by
  obtain ⟨hR, hl, _⟩ := right_of h0
  exact reached_at (succ_lt hR) (fun k hk => by rw [List.mem_singleton.1 hk]; exact hl) k
theorem come_len {k : Nat} (h : Come (succOf l) [0] k) : k < l.length := by
  obtain ⟨hR, hl, _⟩ := right_of h0
  exact come_lt (succ_lt hR) (fun k hk => by rw [List.mem_singleton.1 hk]; exact hl) h
theorem kept_come {k : Nat} (h : kept l (seenOf l) k = true) : Come (succOf l) [0] k ∧ ∃ hk : k < l.length, l[k].op ≠ 1 := by
  unfold kept at h
  cases hx : l[k]? with
  | none => rw [hx] at h; cases h
  | some x =>
    rw [hx] at h
    simp only [Bool.and_eq_true, decide_eq_true_eq, bne_iff_ne] at h
    obtain ⟨hk, rfl⟩ := List.getElem?_eq_some_iff.1 hx
    exact ⟨(seen_at h0 k).1 h.1, hk, h.2⟩
theorem kept_of {k : Nat} (h : Come (succOf l) [0] k) (hk : k < l.length) (ho : l[k].op ≠ 1) : kept l (seenOf l) k = true := by
  rw [kept_at hk]
  have := (seen_at h0 k).2 h
  unfold At at this
  simp [this, ho]
omit h0 in
theorem nop_goes {k : Nat} (h : Come (succOf l) [0] k) (hk : k < l.length) (ho : l[k].op = 1) : Come (succOf l) [0] (k + 1) ∧ placeOf l (seenOf l) (k + 1) = placeOf l (seenOf l) k := by
  refine ⟨.step h ?_, ?_⟩
  · rw [succ_at hk]
    refine List.mem_map.2 ⟨(k : Int) + 1, ?_, by omega⟩
    unfold afterOf
    rw [ho]
    exact List.mem_append_left _ (by simp [endsOp])
  · rw [place_succ, if_neg]
    · rfl
    · rw [kept_at hk, ho]; simp
/-- from a place that can be come to, something is left further on -/
theorem place_lt : ∀ (d : Nat) {k : Nat}, l.length - k = d → Come (succOf l) [0] k → placeOf l (seenOf l) k < placeOf l (seenOf l) l.length
  | 0, k, hd, h => by have := come_len h0 h; omega
  | d + 1, k, hd, h => by
    have hk := come_len h0 h
    by_cases ho : l[k].op = 1
    · obtain ⟨h1, h2⟩ := nop_goes h hk ho
      rw [← h2]
      exact place_lt d (by omega) h1
    · have hkk := kept_of h0 h hk ho
      have := (List.getElem?_eq_some_iff.1 (trim_at hkk hk)).1
      rwa [trim_len] at this
theorem place_lt' {k : Nat} (h : Come (succOf l) [0] k) : placeOf l (seenOf l) k < (trimOf l (seenOf l)).length := by
  rw [trim_len]; exact place_lt h0 _ rfl h
theorem jump_come {k : Nat} (h : Come (succOf l) [0] k) (hk : k < l.length) (hj : jumpsOp l[k].op = true) : ∃ j : Nat, l[k].a = (j : Int) ∧ Come (succOf l) [0] j := by
  obtain ⟨hR, _, _⟩ := right_of h0
  by_cases hc : l[k].op = 14 ∨ l[k].a ≠ (k : Int) + 1
  · have hm : l[k].a ∈ afterOf l[k] k := by
      unfold afterOf
      exact List.mem_append_right _ (by rw [if_pos ⟨hj, hc⟩]; exact List.mem_singleton.2 rfl)
    have := hR k hk _ hm
    refine ⟨l[k].a.toNat, by omega, .step h ?_⟩
    rw [succ_at hk]
    exact List.mem_map.2 ⟨_, hm, rfl⟩
  · have ho : l[k].op ≠ 14 := fun e => hc (.inl e)
    have ha : l[k].a = (k : Int) + 1 := Classical.not_not.1 (fun e => hc (.inr e))
    refine ⟨k + 1, by omega, .step h ?_⟩
    rw [succ_at hk]
    refine List.mem_map.2 ⟨(k : Int) + 1, ?_, by omega⟩
    unfold afterOf
    refine List.mem_append_left _ ?_
    rw [if_neg]
    · exact List.mem_singleton.2 rfl
    · intro he; exact ho (ends_jumps he hj)

theorem all_ok : (∀ x ∈ l, insFault x = 0) ∧ l.length ≤ 40 := by
  refine ⟨?_, (right_of h0).2.2⟩
  have h := h0
  unfold codeFault at h
  by_cases h40 : 40 < l.length
  · rw [if_pos h40] at h; cases h
  · rw [if_neg h40] at h
    by_cases hb : badIns l = 0
    · exact bad_all hb
    · rw [if_pos hb] at h; exact absurd h hb
omit h0 in
theorem moved_fault {s : List Bool} {x : I} (h : insFault x = 0) (hp : placeOf l s x.a.toNat ≤ 40) : insFault (moved l s x) = 0 := by
  unfold moved
  by_cases hj : jumpsOp x.op = true
  · rw [if_pos hj]
    have ho : x.op = 12 ∨ x.op = 13 ∨ x.op = 14 := by simpa [jumpsOp, or_assoc] using hj
    have hA : needA x.op = true := by rcases ho with e | e | e <;> rw [e] <;> rfl
    unfold insFault at h ⊢
    simp only at h ⊢
    split at h
    · cases h
    · rename_i h1
      rw [if_neg h1]
      split at h
      · cases h
      · rename_i h2
        rw [if_neg (by simpa [bareOk, hA] using h2)]
        split at h
        · cases h
        · rename_i h3
          have hr : rangedOk x = true := by simpa using h3
          unfold rangedOk at hr
          rw [if_neg (by omega), if_neg (by omega), if_neg (by omega), if_pos hj] at hr
          have hr2 := of_decide_eq_true hr
          rw [if_neg]
          · exact h
          · unfold rangedOk
            simp only
            rw [if_neg (by omega), if_neg (by omega), if_neg (by omega), if_pos hj]
            simp; omega
  · rw [if_neg hj]; exact h

/-- the instruction that is left at a place, and where it comes from -/
theorem left_at {j : Nat} (hj : j < (trimOf l (seenOf l)).length) : ∃ k, ∃ hk : k < l.length, Come (succOf l) [0] k ∧ l[k].op ≠ 1 ∧ placeOf l (seenOf l) k = j ∧ (trimOf l (seenOf l))[j] = moved l (seenOf l) l[k] := by
  rw [trim_len] at hj
  obtain ⟨k, hk, hkk, hp⟩ := trim_from hj
  obtain ⟨hc, _, ho⟩ := kept_come h0 hkk
  have h1 := trim_at hkk hk
  rw [hp, mv_at hk] at h1
  exact ⟨k, hk, hc, ho, hp, (List.getElem?_eq_some_iff.1 h1).2⟩
theorem left_of {k : Nat} (hc : Come (succOf l) [0] k) (hk : k < l.length) (ho : l[k].op ≠ 1) : ∃ hj : placeOf l (seenOf l) k < (trimOf l (seenOf l)).length, (trimOf l (seenOf l))[placeOf l (seenOf l) k] = moved l (seenOf l) l[k] := by
  have h1 := trim_at (kept_of h0 hc hk ho) hk
  rw [mv_at hk] at h1
  exact List.getElem?_eq_some_iff.1 h1

omit h0 in
theorem bad_none : ∀ {m : List I}, (∀ x ∈ m, insFault x = 0) → badIns m = 0
  | [], _ => rfl
  | x :: m, h => by unfold badIns; rw [if_pos (h x List.mem_cons_self)]; exact bad_none fun y hy => h y (List.mem_cons_of_mem _ hy)
omit h0 in
theorem out_none {n : Nat} : ∀ {m : List I}, (∀ x ∈ m, jumpsOp x.op = true → x.a < (n : Int)) → jumpsOut n m = false
  | [], _ => rfl
  | x :: m, h => by
    unfold jumpsOut
    rw [if_neg]
    · exact out_none fun y hy => h y (List.mem_cons_of_mem _ hy)
    · rintro ⟨h1, h2⟩
      have := h x List.mem_cons_self h1
      omega

/-- what is left is right code -/
theorem trim_right : codeFault (trimOf l (seenOf l)) = 0 := by
  obtain ⟨hok, h40⟩ := all_ok h0
  have hl : (trimOf l (seenOf l)).length ≤ 40 := by rw [trim_len]; exact Nat.le_trans (place_le _ _ _) h40
  have hpos : 0 < (trimOf l (seenOf l)).length := by
    have := place_lt' h0 (.base (List.mem_singleton.2 rfl)); omega
  have hb : badIns (trimOf l (seenOf l)) = 0 := bad_none fun x hx => by
    obtain ⟨j, hj, rfl⟩ := List.mem_iff_getElem.1 hx
    obtain ⟨k, hk, hc, ho, _, he⟩ := left_at h0 hj
    rw [he]
    by_cases hjm : jumpsOp l[k].op = true
    · obtain ⟨a, ha, hca⟩ := jump_come h0 hc hk hjm
      refine moved_fault (hok _ (List.getElem_mem hk)) ?_
      rw [ha, Int.toNat_natCast]
      have := place_lt' h0 hca; omega
    · unfold moved; rw [if_neg hjm]; exact hok _ (List.getElem_mem hk)
  have ho : jumpsOut (trimOf l (seenOf l)).length (trimOf l (seenOf l)) = false := out_none fun x hx hjx => by
    obtain ⟨j, hj, rfl⟩ := List.mem_iff_getElem.1 hx
    obtain ⟨k, hk, hc, ho, _, he⟩ := left_at h0 hj
    rw [he, moved_op] at hjx
    obtain ⟨a, ha, hca⟩ := jump_come h0 hc hk hjx
    have h2 : (moved l (seenOf l) l[k]).a = (placeOf l (seenOf l) a : Int) := by
      unfold moved; rw [if_pos hjx]; simp only; rw [ha, Int.toNat_natCast]
    rw [he, h2]
    have := place_lt' h0 hca; omega
  have hE : lastEnds (trimOf l (seenOf l)) = true := by
    obtain ⟨m, hm⟩ : ∃ m, (trimOf l (seenOf l)).length = m + 1 := ⟨(trimOf l (seenOf l)).length - 1, by omega⟩
    obtain ⟨k, hk, hc, hop, hp, he⟩ := left_at h0 (j := m) (by omega)
    rw [last_at hm, he, moved_op]
    cases hends : endsOp l[k].op with
    | true => rfl
    | false =>
      exfalso
      have hc2 : Come (succOf l) [0] (k + 1) := .step hc (by
        rw [succ_at hk]
        refine List.mem_map.2 ⟨(k : Int) + 1, ?_, by omega⟩
        unfold afterOf
        exact List.mem_append_left _ (by rw [hends]; simp))
      have h3 := place_lt' h0 hc2
      rw [place_succ, if_pos (kept_of h0 hc hk hop), hp] at h3
      omega
  unfold codeFault
  rw [if_neg (by omega), if_neg (by rw [hb]; decide), if_neg (by rw [ho]; decide), if_pos hE]

/-- all that is left can be come to -/
theorem trim_come {k : Nat} (h : Come (succOf l) [0] k) : Come (succOf (trimOf l (seenOf l))) [0] (placeOf l (seenOf l) k) := by
  induction h with
  | base h1 =>
    rw [List.mem_singleton.1 h1]
    exact .base (List.mem_singleton.2 rfl)
  | step h1 hj ih =>
    rename_i i i'
    have hi := come_len h0 h1
    by_cases ho : l[i].op = 1
    · rw [succ_at hi] at hj
      obtain ⟨z, hz, rfl⟩ := List.mem_map.1 hj
      have hz1 : z = (i : Int) + 1 := by
        unfold afterOf at hz
        rw [ho] at hz
        simpa [endsOp, jumpsOp] using hz
      rw [hz1, show ((i : Int) + 1).toNat = i + 1 by omega, (nop_goes h1 hi ho).2]
      exact ih
    · obtain ⟨hp, he⟩ := left_of h0 h1 hi ho
      refine .step ih ?_
      rw [succ_at hp, he]
      rw [succ_at hi] at hj
      obtain ⟨z, hz, rfl⟩ := List.mem_map.1 hj
      have hkk := kept_of h0 h1 hi ho
      unfold afterOf at hz
      rcases List.mem_append.1 hz with hz | hz
      · cases hends : endsOp l[i].op with
        | true => rw [hends, if_pos rfl] at hz; cases hz
        | false =>
          rw [hends, if_neg (by decide)] at hz
          rw [List.mem_singleton.1 hz, show ((i : Int) + 1).toNat = i + 1 by omega, place_succ, if_pos hkk]
          refine List.mem_map.2 ⟨(placeOf l (seenOf l) i : Int) + 1, ?_, by omega⟩
          unfold afterOf
          refine List.mem_append_left _ ?_
          rw [moved_op, hends]; simp
      · split at hz
        · rename_i hc
          obtain ⟨a, ha, hca⟩ := jump_come h0 h1 hi hc.1
          rw [List.mem_singleton.1 hz, ha, Int.toNat_natCast]
          have hma : (moved l (seenOf l) l[i]).a = (placeOf l (seenOf l) a : Int) := by
            unfold moved; rw [if_pos hc.1]; simp only; rw [ha, Int.toNat_natCast]
          by_cases h14 : l[i].op = 14 ∨ (placeOf l (seenOf l) a : Int) ≠ (placeOf l (seenOf l) i : Int) + 1
          · refine List.mem_map.2 ⟨(placeOf l (seenOf l) a : Int), ?_, by omega⟩
            unfold afterOf
            refine List.mem_append_right _ ?_
            rw [moved_op, hma, if_pos ⟨hc.1, h14⟩]
            exact List.mem_singleton.2 rfl
          · have hn : l[i].op ≠ 14 := fun e => h14 (.inl e)
            have hq : (placeOf l (seenOf l) a : Int) = (placeOf l (seenOf l) i : Int) + 1 := Classical.not_not.1 (fun e => h14 (.inr e))
            refine List.mem_map.2 ⟨(placeOf l (seenOf l) i : Int) + 1, ?_, by omega⟩
            unfold afterOf
            refine List.mem_append_left _ ?_
            rw [moved_op, if_neg]
            · exact List.mem_singleton.2 rfl
            · intro hee; exact hn (ends_jumps hee hc.1)
        · cases hz
theorem trim_all {j : Nat} (hj : j < (trimOf l (seenOf l)).length) : Come (succOf (trimOf l (seenOf l))) [0] j := by
  obtain ⟨k, hk, hc, _, hp, _⟩ := left_at h0 hj
  rw [← hp]; exact trim_come h0 hc
theorem trim_nop {j : Nat} (hj : j < (trimOf l (seenOf l)).length) : (trimOf l (seenOf l))[j].op ≠ 1 := by
  obtain ⟨k, hk, _, ho, _, he⟩ := left_at h0 hj
  rw [he, moved_op]; exact ho
end

/-- where all is left nothing moves -/
theorem place_all {m : List I} {s : List Bool} (h : ∀ j, j < m.length → kept m s j = true) : ∀ j, j ≤ m.length → placeOf m s j = j
  | 0, _ => rfl
  | j + 1, hj => by rw [place_succ, if_pos (h j (by omega)), place_all h j (by omega)]
theorem trim_same {m : List I} (h : codeFault m = 0) (hall : ∀ j, j < m.length → Come (succOf m) [0] j) (hnop : ∀ j (hj : j < m.length), m[j].op ≠ 1) : trimOf m (seenOf m) = m := by
  have hk : ∀ j, j < m.length → kept m (seenOf m) j = true := fun j hj => kept_of h (hall j hj) hj (hnop j hj)
  have hp := place_all hk
  apply List.ext_getElem
  · rw [trim_len, hp _ (Nat.le_refl _)]
  · intro j h1 h2
    have := trim_at (hk j h2) h2
    rw [hp j (by omega), mv_at h2] at this
    have he := (List.getElem?_eq_some_iff.1 this).2
    rw [he]
    unfold moved
    by_cases hj : jumpsOp m[j].op = true
    · rw [if_pos hj]
      obtain ⟨a, ha, hca⟩ := jump_come h (hall j h2) h2 hj
      have hal := come_len h hca
      rw [ha, Int.toNat_natCast, hp a (by omega), ← ha]
    · rw [if_neg hj]
/-- trimmed code, trimmed again -/
theorem trim_twice {l : List I} (h0 : codeFault l = 0) : trimOf (trimOf l (seenOf l)) (seenOf (trimOf l (seenOf l))) = trimOf l (seenOf l) :=
  trim_same (trim_right h0) (fun _ hj => trim_all h0 hj) (fun _ hj => trim_nop h0 hj)
/-- all of trimmed code is told by flow.Reach -/
theorem trim_reach {l : List I} (h0 : codeFault l = 0) : (reachOf (trimOf l (seenOf l))).length = (trimOf l (seenOf l)).length := by
  have hr := trim_right h0
  unfold reachOf idxTo
  rw [List.filter_eq_self.2, List.length_range]
  intro j hj
  have := (seen_at hr j).2 (trim_all h0 (List.mem_range.1 hj))
  unfold At at this
  exact decide_eq_true this
end Go.Proofs.YtdnnnjedobknhaaDoor.trims
