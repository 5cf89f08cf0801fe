/- Which places can be come to from some: marking round by round, and from a list of what is still to do, mark the same places. Plain; condition: no place leads outside. -/
import Derived.WalkKit
namespace Go.Proofs.YtklebfkbildifaaDoor.reach

inductive Come (S : Nat → List Nat) (fr : List Nat) : Nat → Prop
  | base {k : Nat} : k ∈ fr → Come S fr k
  | step {k j : Nat} : Come S fr k → j ∈ S k → Come S fr j

/-- place k is marked -/
def At (s : List Bool) (k : Nat) : Prop := s[k]? = some true
theorem At.lt {s : List Bool} {k : Nat} (h : At s k) : k < s.length := (List.getElem?_eq_some_iff.1 h).1
theorem at_set {s : List Bool} {j k : Nat} (hj : j < s.length) : At (s.set j true) k ↔ k = j ∨ At s k := by
  unfold At
  rw [List.getElem?_set]
  by_cases h : j = k
  · subst h; simp [hj]
  · rw [if_neg h]
    exact ⟨.inr, fun h' => h'.elim (fun e => absurd e.symm h) id⟩
theorem at_false {n k : Nat} : ¬ At (List.replicate n false) k := by
  unfold At
  rw [List.getElem?_replicate]
  split <;> simp
theorem same_of {s t : List Bool} (hl : s.length = t.length) (h : ∀ k, At s k ↔ At t k) : s = t := by
  apply List.ext_getElem hl
  intro k h1 h2
  have := h k
  unfold At at this
  rw [List.getElem?_eq_getElem h1, List.getElem?_eq_getElem h2] at this
  cases hs : s[k] <;> cases ht : t[k] <;> simp_all

def mark (s : List Bool) (js : List Nat) : List Bool := js.foldl (fun s j => s.set j true) s
theorem mark_nil (s : List Bool) : mark s [] = s := rfl
theorem mark_cons (s : List Bool) (j : Nat) (js : List Nat) : mark s (j :: js) = mark (s.set j true) js := rfl
theorem mark_len : ∀ (js : List Nat) (s : List Bool), (mark s js).length = s.length
  | [], _ => rfl
  | j :: js, s => by rw [mark_cons, mark_len js, List.length_set]
theorem at_mark : ∀ (js : List Nat) {s : List Bool} {k : Nat}, (∀ j ∈ js, j < s.length) → (At (mark s js) k ↔ k ∈ js ∨ At s k)
  | [], s, k, _ => by simp [mark_nil]
  | j :: js, s, k, h => by
    rw [mark_cons, at_mark js (fun i hi => by rw [List.length_set]; exact h i (List.mem_cons_of_mem _ hi)), at_set (h j List.mem_cons_self), List.mem_cons]
    constructor
    · rintro (h | h | h)
      · exact .inl (.inr h)
      · exact .inl (.inl h)
      · exact .inr h
    · rintro ((h | h) | h)
      · exact .inr (.inl h)
      · exact .inl h
      · exact .inr (.inr h)
theorem mark_snoc (s : List Bool) (js : List Nat) (j : Nat) : mark s (js ++ [j]) = (mark s js).set j true := by unfold mark; rw [List.foldl_append]; rfl

def sweep (S : Nat → List Nat) (s : List Bool) (i : Nat) : List Bool := if s[i]? = some true then mark s (S i) else s
def roundTo (S : Nat → List Nat) (s : List Bool) (k : Nat) : List Bool := (List.range k).foldl (sweep S) s
def rounds (S : Nat → List Nat) (n : Nat) (s : List Bool) : Nat → List Bool
  | 0 => s
  | r + 1 => roundTo S (rounds S n s r) n
def reached (S : Nat → List Nat) (n : Nat) (fr : List Nat) : List Bool := rounds S n (mark (List.replicate n false) fr) n

theorem roundTo_zero (S : Nat → List Nat) (s : List Bool) : roundTo S s 0 = s := rfl
theorem roundTo_succ (S : Nat → List Nat) (s : List Bool) (k : Nat) : roundTo S s (k + 1) = sweep S (roundTo S s k) k := by unfold roundTo; rw [List.range_succ, List.foldl_append]; rfl

section
variable {S : Nat → List Nat} {n : Nat} (hS : ∀ k, k < n → ∀ j ∈ S k, j < n)
include hS

theorem sweep_len {s : List Bool} (i : Nat) : (sweep S s i).length = s.length := by
  have := hS
  unfold sweep; split
  · exact mark_len _ _
  · rfl
theorem at_sweep {s : List Bool} (hl : s.length = n) {i k : Nat} : At (sweep S s i) k ↔ At s k ∨ At s i ∧ k ∈ S i := by
  unfold sweep
  by_cases h : s[i]? = some true
  · have hi := (List.getElem?_eq_some_iff.1 h).1
    rw [if_pos h, at_mark _ (fun j hj => by rw [hl]; exact hS i (by omega) j hj)]
    exact ⟨fun h' => h'.elim (fun a => .inr ⟨h, a⟩) .inl, fun h' => h'.elim .inr (fun a => .inl a.2)⟩
  · rw [if_neg h]
    exact ⟨.inl, fun h' => h'.elim id (fun a => absurd a.1 h)⟩
theorem roundTo_len {s : List Bool} : ∀ k, (roundTo S s k).length = s.length
  | 0 => rfl
  | k + 1 => by rw [roundTo_succ, sweep_len hS, roundTo_len k]
theorem roundTo_mono {s : List Bool} (hl : s.length = n) {j : Nat} (h : At s j) : ∀ k, At (roundTo S s k) j
  | 0 => h
  | k + 1 => by rw [roundTo_succ, at_sweep hS (by rw [roundTo_len hS, hl])]; exact .inl (roundTo_mono hl h k)
theorem roundTo_le {s : List Bool} (hl : s.length = n) {j k : Nat} (h : At (roundTo S s k) j) : ∀ m, At (roundTo S s (k + m)) j
  | 0 => h
  | m + 1 => by rw [← Nat.add_assoc, roundTo_succ, at_sweep hS (by rw [roundTo_len hS, hl])]; exact .inl (roundTo_le hl h m)
/-- a marked place's successors are marked behind the round -/
theorem roundTo_goes {s : List Bool} (hl : s.length = n) {i j : Nat} (h : At s i) (hj : j ∈ S i) : At (roundTo S s n) j := by
  have hi := h.lt
  have h1 : At (roundTo S s (i + 1)) j := by
    rw [roundTo_succ, at_sweep hS (by rw [roundTo_len hS, hl])]
    exact .inr ⟨roundTo_mono hS hl h i, hj⟩
  have := roundTo_le hS hl h1 (n - (i + 1))
  rwa [show i + 1 + (n - (i + 1)) = n by omega] at this
theorem roundTo_sound {s : List Bool} (hl : s.length = n) {fr : List Nat} (h : ∀ k, At s k → Come S fr k) : ∀ m k, At (roundTo S s m) k → Come S fr k
  | 0, k, hk => h k hk
  | m + 1, k, hk => by
    rw [roundTo_succ, at_sweep hS (by rw [roundTo_len hS, hl])] at hk
    rcases hk with hk | ⟨h1, h2⟩
    · exact roundTo_sound hl h m k hk
    · exact .step (roundTo_sound hl h m m h1) h2
theorem rounds_len {s : List Bool} (hl : s.length = n) : ∀ r, (rounds S n s r).length = n
  | 0 => hl
  | r + 1 => by unfold rounds; rw [roundTo_len hS, rounds_len hl r]
theorem rounds_sound {s : List Bool} (hl : s.length = n) {fr : List Nat} (h : ∀ k, At s k → Come S fr k) : ∀ r k, At (rounds S n s r) k → Come S fr k
  | 0, k, hk => h k hk
  | r + 1, k, hk => roundTo_sound hS (rounds_len hS hl r) (rounds_sound hl h r) n k hk
theorem rounds_mono {s : List Bool} (hl : s.length = n) {j : Nat} (h : At s j) : ∀ r, At (rounds S n s r) j
  | 0 => h
  | r + 1 => roundTo_mono hS (rounds_len hS hl r) (rounds_mono hl h r) n

def Shut (S : Nat → List Nat) (s : List Bool) : Prop := ∀ i, At s i → ∀ j ∈ S i, At s j
def count (s : List Bool) : Nat := s.countP id

omit hS in
theorem count_le_of {s t : List Bool} (hl : s.length = t.length) (h : ∀ k, At s k → At t k) : count s ≤ count t ∧ (count s = count t → s = t) := by
  induction s generalizing t with
  | nil => cases t with
    | nil => simp
    | cons _ _ => simp at hl
  | cons a s ih => cases t with
    | nil => simp at hl
    | cons b t =>
      have hl' : s.length = t.length := by simpa using hl
      have h' : ∀ k, At s k → At t k := fun k hk => by have := h (k + 1) (by simpa [At] using hk); simpa [At] using this
      have h0 : a = true → b = true := fun e => by have := h 0 (by simp [At, e]); simpa [At] using this
      obtain ⟨i1, i2⟩ := ih hl' h'
      unfold count at *
      rw [List.countP_cons, List.countP_cons]
      cases a <;> cases b <;> simp at * <;> first | exact ⟨i1, i2⟩ | exact ⟨by omega, by omega⟩ | skip

theorem round_fix {s : List Bool} (hl : s.length = n) (h : roundTo S s n = s) : Shut S s := fun i hi j hj => by
  have := roundTo_goes hS hl hi hj
  rwa [h] at this
theorem shut_fix {s : List Bool} (hl : s.length = n) (h : Shut S s) : ∀ k, roundTo S s k = s
  | 0 => rfl
  | k + 1 => by
    rw [roundTo_succ, shut_fix hl h k]
    apply same_of (sweep_len hS k)
    intro j
    rw [at_sweep hS hl]
    exact ⟨fun h' => h'.elim id (fun a => h k a.1 j a.2), .inl⟩
theorem rounds_count {s : List Bool} (hl : s.length = n) : ∀ r, Shut S (rounds S n s r) ∨ r ≤ count (rounds S n s r)
  | 0 => .inr (Nat.zero_le _)
  | r + 1 => by
    have hr := rounds_len hS hl r
    show Shut S (roundTo S (rounds S n s r) n) ∨ r + 1 ≤ count (roundTo S (rounds S n s r) n)
    obtain ⟨c1, c2⟩ := count_le_of (s := rounds S n s r) (t := roundTo S (rounds S n s r) n) (by rw [roundTo_len hS]) (fun k hk => roundTo_mono hS hr hk n)
    rcases rounds_count hl r with h | h
    · left; rw [shut_fix hS hr h n]; exact h
    · by_cases he : count (rounds S n s r) = count (roundTo S (rounds S n s r) n)
      · left
        have := c2 he
        rw [← this]
        exact round_fix hS hr this.symm
      · right; omega
omit hS in
theorem full {s : List Bool} (h : s.length ≤ count s) : ∀ k, k < s.length → At s k := by
  have := List.countP_le_length (p := id) (l := s)
  have he : s.countP id = s.length := by unfold count at h; omega
  rw [List.countP_eq_length] at he
  intro k hk
  unfold At
  have h1 : s[k] = true := he _ (List.getElem_mem hk)
  rw [List.getElem?_eq_getElem hk, h1]
theorem rounds_shut {s : List Bool} (hl : s.length = n) : Shut S (rounds S n s n) := by
  rcases rounds_count hS hl n with h | h
  · exact h
  · have hr := rounds_len hS hl n
    intro i hi j hj
    exact full (by omega) j (by rw [hr]; exact hS i (by have := hi.lt; omega) j hj)

omit hS in
theorem start_len {fr : List Nat} : (mark (List.replicate n false) fr).length = n := by rw [mark_len, List.length_replicate]
theorem reached_len {fr : List Nat} : (reached S n fr).length = n := rounds_len hS start_len n
theorem come_lt {fr : List Nat} (hf : ∀ k ∈ fr, k < n) {k : Nat} (h : Come S fr k) : k < n := by
  induction h with
  | base h => exact hf _ h
  | step _ hj ih => exact hS _ ih _ hj
theorem reached_at {fr : List Nat} (hf : ∀ k ∈ fr, k < n) (k : Nat) : At (reached S n fr) k ↔ Come S fr k := by
  have h0 : ∀ k, At (mark (List.replicate n false) fr) k ↔ k ∈ fr := fun k => by
    rw [at_mark _ (fun j hj => by rw [List.length_replicate]; exact hf j hj)]
    exact ⟨fun h => h.elim id (fun h => absurd h at_false), .inl⟩
  constructor
  · exact rounds_sound hS start_len (fun k hk => .base ((h0 k).1 hk)) n k
  · intro h
    induction h with
    | base h => exact rounds_mono hS start_len ((h0 _).2 h) n
    | step _ hj ih => exact rounds_shut hS start_len _ ih _ hj

/-- what holds between rounds of the walk with a list of what is to do -/
structure Todo (S : Nat → List Nat) (n : Nat) (fr : List Nat) (seen : List Bool) (todo : List Nat) : Prop where
  len : seen.length = n
  sound : ∀ k, At seen k → Come S fr k
  sound2 : ∀ k ∈ todo, Come S fr k
  starts : ∀ k ∈ fr, At seen k ∨ k ∈ todo
  goes : ∀ i, At seen i → ∀ j ∈ S i, At seen j ∨ j ∈ todo
omit hS in
theorem Todo.start {fr : List Nat} : Todo S n fr (List.replicate n false) fr :=
  ⟨List.length_replicate, fun _ h => absurd h at_false, fun _ h => .base h, fun _ h => .inr h, fun _ h => absurd h at_false⟩
omit hS in
theorem Todo.skip {fr : List Nat} {seen : List Bool} {todo : List Nat} {k : Nat} (h : Todo S n fr seen (todo ++ [k])) (hk : At seen k) : Todo S n fr seen todo := by
  refine ⟨h.len, h.sound, fun j hj => h.sound2 j (List.mem_append_left _ hj), fun j hj => ?_, fun i hi j hj => ?_⟩
  · rcases h.starts j hj with h1 | h1
    · exact .inl h1
    · rcases List.mem_append.1 h1 with h2 | h2
      · exact .inr h2
      · rw [List.mem_singleton.1 h2]; exact .inl hk
  · rcases h.goes i hi j hj with h1 | h1
    · exact .inl h1
    · rcases List.mem_append.1 h1 with h2 | h2
      · exact .inr h2
      · rw [List.mem_singleton.1 h2]; exact .inl hk
omit hS in
theorem Todo.take {fr : List Nat} {seen : List Bool} {todo : List Nat} {k : Nat} (h : Todo S n fr seen (todo ++ [k])) (hk : k < n) : Todo S n fr (seen.set k true) (todo ++ S k) := by
  have hk' : k < seen.length := by rw [h.len]; exact hk
  have hc := h.sound2 k (List.mem_append_right _ (List.mem_singleton.2 rfl))
  refine ⟨by rw [List.length_set, h.len], fun j hj => ?_, fun j hj => ?_, fun j hj => ?_, fun i hi j hj => ?_⟩
  · rcases (at_set hk').1 hj with h1 | h1
    · rw [h1]; exact hc
    · exact h.sound j h1
  · rcases List.mem_append.1 hj with h1 | h1
    · exact h.sound2 j (List.mem_append_left _ h1)
    · exact .step hc h1
  · rw [at_set hk', List.mem_append]
    rcases h.starts j hj with h1 | h1
    · exact .inl (.inr h1)
    · rcases List.mem_append.1 h1 with h2 | h2
      · exact .inr (.inl h2)
      · exact .inl (.inl (List.mem_singleton.1 h2))
  · rw [at_set hk', List.mem_append]
    rcases (at_set hk').1 hi with h1 | h1
    · subst h1; exact .inr (.inr hj)
    · rcases h.goes i h1 j hj with h2 | h2
      · exact .inl (.inr h2)
      · rcases List.mem_append.1 h2 with h3 | h3
        · exact .inr (.inl h3)
        · exact .inl (.inl (List.mem_singleton.1 h3))
theorem Todo.done {fr : List Nat} (hf : ∀ k ∈ fr, k < n) {seen : List Bool} (h : Todo S n fr seen []) : seen = reached S n fr := by
  apply same_of (by rw [h.len, reached_len hS])
  intro k
  rw [reached_at hS hf]
  refine ⟨h.sound k, fun hc => ?_⟩
  induction hc with
  | base hk => exact (h.starts _ hk).elim id (fun h' => by cases h')
  | step _ hj ih => exact (h.goes _ ih _ hj).elim id (fun h' => by cases h')
end

/-- how many rounds are still to come at the most -/
def left (seen : List Bool) (todo : List Nat) : Nat := 3 * seen.countP (!·) + todo.length
theorem left_skip (seen : List Bool) (todo : List Nat) (k : Nat) : left seen todo < left seen (todo ++ [k]) := by unfold left; rw [List.length_append]; simp
theorem count_set {s : List Bool} {k : Nat} (h : s[k]? = some false) : (s.set k true).countP (!·) + 1 = s.countP (!·) := by
  induction s generalizing k with
  | nil => cases h
  | cons a s ih =>
    cases k with
    | zero => simp at h; subst h; simp
    | succ k =>
      have := ih (k := k) (by simpa using h)
      rw [List.set_cons_succ, List.countP_cons, List.countP_cons]
      omega
theorem left_take {seen : List Bool} {todo js : List Nat} {k : Nat} (h : seen[k]? = some false) (hj : js.length ≤ 2) : left (seen.set k true) (todo ++ js) < left seen (todo ++ [k]) := by
  have := count_set h
  unfold left
  rw [List.length_append, List.length_append]
  simp only [List.length_singleton]
  omega
theorem todo_le (seen : List Bool) (todo : List Nat) : todo.length ≤ left seen todo := by unfold left; omega
end Go.Proofs.YtklebfkbildifaaDoor.reach
