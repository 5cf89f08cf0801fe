/- What can be come to in a method, by its handlers too: going round with a list that grows, and round by round, end at the same places. Plain; conditions: no place leads outside, the handlers lie inside. -/
import Derived.Test.YtklebfkbildifaaDoorHdl1
import Derived.Test.YtklebfkbildifaaDoorReach
namespace Go.Proofs.YtklebfkbildifaaDoor.mseen
open Go.RowKit Go.Proofs.YtklebfkbildifaaDoor.hdls Go.Proofs.YtklebfkbildifaaDoor.reach

inductive HCome (S : Nat → List Nat) (hs : List Hd) : Nat → Prop
  | base : HCome S hs 0
  | step {k j : Nat} : HCome S hs k → j ∈ S k → HCome S hs j
  | hand {h : Hd} {k : Nat} : h ∈ hs → HCome S hs k → h.fr ≤ (k : Int) → (k : Int) < h.to → HCome S hs h.at_.toNat

/-- what can be come to -/
noncomputable def mseen (S : Nat → List Nat) (n : Nat) (hs : List Hd) : List Bool := (List.range n).map fun k => @decide (HCome S hs k) (Classical.propDecidable _)
theorem mseen_len (S : Nat → List Nat) (n : Nat) (hs : List Hd) : (mseen S n hs).length = n := by simp [mseen]
theorem mseen_at (S : Nat → List Nat) (n : Nat) (hs : List Hd) {k : Nat} (hk : k < n) : At (mseen S n hs) k ↔ HCome S hs k := by
  unfold At mseen
  rw [List.getElem?_map, List.getElem?_range hk]
  simp

/-- the places of a handler, up to k, that are marked: its own place, once for each -/
def firedTo (s : List Bool) (h : Hd) (k : Nat) : List Nat := ((List.range k).filter fun i : Nat => decide (h.fr ≤ (i : Int)) && decide (s[i]? = some true)).map fun _ => h.at_.toNat
abbrev fired (s : List Bool) (h : Hd) : List Nat := firedTo s h h.to.toNat
theorem firedTo_len (s : List Bool) (h : Hd) (k : Nat) : (firedTo s h k).length ≤ k := by
  unfold firedTo; rw [List.length_map]
  have := List.length_filter_le (fun i : Nat => decide (h.fr ≤ (i : Int)) && decide (s[i]? = some true)) (List.range k)
  rwa [List.length_range] at this
theorem firedTo_start (s : List Bool) (h : Hd) (k : Nat) (_hk : (k : Int) ≤ h.fr) : firedTo s h k = [] := by
  unfold firedTo
  rw [List.map_eq_nil_iff, List.filter_eq_nil_iff]
  intro i hi
  have := List.mem_range.1 hi
  have : ¬ h.fr ≤ (i : Int) := by omega
  simp [this]
theorem firedTo_yes {s : List Bool} {h : Hd} {k : Nat} (hf : h.fr ≤ (k : Int)) (hs : s[k]? = some true) : firedTo s h (k + 1) = firedTo s h k ++ [h.at_.toNat] := by
  unfold firedTo; rw [List.range_succ, List.filter_append, List.map_append]; simp [hf, hs]
theorem firedTo_no {s : List Bool} {h : Hd} {k : Nat} (hs : ¬ s[k]? = some true) : firedTo s h (k + 1) = firedTo s h k := by
  unfold firedTo; rw [List.range_succ, List.filter_append, List.map_append]; simp [hs]
theorem mem_firedTo {s : List Bool} {h : Hd} {k j : Nat} : j ∈ firedTo s h k ↔ j = h.at_.toNat ∧ ∃ i, i < k ∧ h.fr ≤ (i : Int) ∧ At s i := by
  unfold firedTo At
  simp only [List.mem_map, List.mem_filter, List.mem_range, Bool.and_eq_true, decide_eq_true_eq]
  constructor
  · rintro ⟨i, ⟨h1, h2, h3⟩, rfl⟩; exact ⟨rfl, i, h1, h2, h3⟩
  · rintro ⟨rfl, i, h1, h2, h3⟩; exact ⟨i, ⟨h1, h2, h3⟩, rfl⟩

/-- is one of a handler's places marked? -/
def fires (s : List Bool) (h : Hd) : Prop := ∃ i : Nat, h.fr ≤ (i : Int) ∧ (i : Int) < h.to ∧ At s i
theorem fires_mem {s : List Bool} {h : Hd} : h.at_.toNat ∈ fired s h ↔ fires s h := by
  rw [mem_firedTo]
  constructor
  · rintro ⟨_, i, h1, h2, h3⟩; exact ⟨i, h2, by omega, h3⟩
  · rintro ⟨i, h1, h2, h3⟩; exact ⟨rfl, i, by omega, h1, h3⟩

section
variable {S : Nat → List Nat} {n : Nat} {hs : List Hd} (hS : ∀ k, k < n → ∀ j ∈ S k, j < n) (hH : ∀ h ∈ hs, hdIn n h = true)
include hS hH
omit hS in
theorem in_at {h : Hd} (hm : h ∈ hs) : h.at_.toNat < n ∧ 0 ≤ h.at_ ∧ 0 ≤ h.fr ∧ h.fr < h.to ∧ h.to ≤ n := by
  have := hH h hm
  unfold hdIn at this
  have := of_decide_eq_true this
  omega

/-- places that a list may hold -/
structure Okay (S : Nat → List Nat) (n : Nat) (hs : List Hd) (F : List Nat) : Prop where
  zero : 0 ∈ F
  lt : ∀ k ∈ F, k < n
  sound : ∀ k ∈ F, HCome S hs k
omit hS hH in
theorem Okay.start (h : 0 < n) : Okay S n hs [0] := ⟨by simp, fun k hk => by rw [List.mem_singleton.1 hk]; exact h, fun k hk => by rw [List.mem_singleton.1 hk]; exact .base⟩
omit hS hH in
theorem come_hcome {F : List Nat} (hF : ∀ k ∈ F, HCome S hs k) {k : Nat} (h : Come S F k) : HCome S hs k := by
  induction h with
  | base h => exact hF _ h
  | step _ hj ih => exact .step ih hj
omit hH in
theorem Okay.seen {F : List Nat} (h : Okay S n hs F) {k : Nat} (hk : At (reached S n F) k) : HCome S hs k := come_hcome h.sound ((reached_at hS h.lt k).1 hk)
theorem Okay.more {F G : List Nat} (h : Okay S n hs F) (hG : ∀ k ∈ G, ∃ d ∈ hs, k = d.at_.toNat ∧ fires (reached S n F) d) : Okay S n hs (F ++ G) := by
  refine ⟨List.mem_append_left _ h.zero, fun k hk => ?_, fun k hk => ?_⟩
  · rcases List.mem_append.1 hk with h1 | h1
    · exact h.lt k h1
    · obtain ⟨d, hd, rfl, _⟩ := hG k h1
      exact (in_at hH hd).1
  · rcases List.mem_append.1 hk with h1 | h1
    · exact h.sound k h1
    · obtain ⟨d, hd, rfl, i, h2, h3, h4⟩ := hG k h1
      exact .hand hd (h.seen hS h4) h2 h3
omit hH in
theorem reached_mono {F G : List Nat} (hF : ∀ k ∈ F, k < n) (hG : ∀ k ∈ G, k < n) (hFG : ∀ k ∈ F, k ∈ G) {k : Nat} (h : At (reached S n F) k) : At (reached S n G) k := by
  rw [reached_at hS hG]
  have h' := (reached_at hS hF k).1 h
  clear h
  induction h' with
  | base h => exact .base (hFG _ h)
  | step _ hj ih => exact .step ih hj
omit hH in
theorem reached_has {F : List Nat} (hF : ∀ k ∈ F, k < n) {k : Nat} (h : k ∈ F) : At (reached S n F) k := (reached_at hS hF k).2 (.base h)

/-- no handler's place is missing -/
def Closed (S : Nat → List Nat) (n : Nat) (hs : List Hd) (F : List Nat) : Prop := ∀ h ∈ hs, fires (reached S n F) h → At (reached S n F) h.at_.toNat
omit hH in
theorem closed_done {F : List Nat} (h : Okay S n hs F) (hc : Closed S n hs F) : reached S n F = mseen S n hs := by
  apply same_of (by rw [reached_len hS, mseen_len])
  intro k
  by_cases hk : k < n
  · rw [mseen_at S n hs hk]
    refine ⟨h.seen hS, fun hm => ?_⟩
    clear hk
    induction hm with
    | base => exact reached_has hS h.lt h.zero
    | step _ hj ih =>
      rw [reached_at hS h.lt] at ih ⊢
      exact .step ih hj
    | hand hd _ h2 h3 ih => exact hc _ hd ⟨_, h2, h3, ih⟩
  · exact ⟨fun h => absurd (by have := h.lt; rwa [reached_len hS] at this) hk, fun h => absurd (by have := h.lt; rwa [mseen_len] at this) hk⟩

/-- how many handlers' own places are marked -/
def atSeen (s : List Bool) (hs : List Hd) : Nat := hs.countP fun h => decide (s[h.at_.toNat]? = some true)
omit hS hH in
theorem atSeen_le (s : List Bool) : atSeen s hs ≤ hs.length := List.countP_le_length
omit hS hH in
theorem countP_lt {α : Type} {p q : α → Bool} : ∀ {l : List α}, (∀ x ∈ l, p x = true → q x = true) → (∃ x ∈ l, p x = false ∧ q x = true) → l.countP p < l.countP q
  | [], _, h => by obtain ⟨x, hx, _⟩ := h; cases hx
  | a :: l, h, hx => by
    have hle : l.countP p ≤ l.countP q := List.countP_mono_left fun x hx => h x (List.mem_cons_of_mem _ hx)
    obtain ⟨x, hx, h1, h2⟩ := hx
    rw [List.countP_cons, List.countP_cons]
    rcases List.mem_cons.1 hx with rfl | hm
    · rw [if_neg (by rw [h1]; decide), if_pos h2]; omega
    · have := countP_lt (fun x hx => h x (List.mem_cons_of_mem _ hx)) ⟨x, hm, h1, h2⟩
      have h0 := h a List.mem_cons_self
      by_cases ha : p a = true
      · rw [if_pos ha, if_pos (h0 ha)]; omega
      · rw [if_neg ha]; split <;> omega

/-- one round of the reference: every handler's place, once for each marked place -/
abbrev roundF (S : Nat → List Nat) (n : Nat) (hs : List Hd) (F : List Nat) : List Nat := F ++ hs.flatMap (fired (reached S n F))
def roundsF (S : Nat → List Nat) (n : Nat) (hs : List Hd) : Nat → List Nat
  | 0 => [0]
  | r + 1 => roundF S n hs (roundsF S n hs r)
theorem roundF_okay {F : List Nat} (h : Okay S n hs F) : Okay S n hs (roundF S n hs F) := h.more hS hH fun k hk => by
  obtain ⟨d, hd, hk⟩ := List.mem_flatMap.1 hk
  obtain ⟨rfl, i, h1, h2, h3⟩ := mem_firedTo.1 hk
  exact ⟨d, hd, rfl, i, h2, by omega, h3⟩
theorem roundsF_okay (h0 : 0 < n) : ∀ r, Okay S n hs (roundsF S n hs r)
  | 0 => .start h0
  | r + 1 => roundF_okay hS hH (roundsF_okay h0 r)
omit hS in
theorem roundsF_len : ∀ r, (roundsF S n hs r).length ≤ 1 + r * (hs.length * n)
  | 0 => by simp [roundsF]
  | r + 1 => by
    have ih := roundsF_len r
    have key : ∀ l : List Hd, (∀ h ∈ l, hdIn n h = true) → (l.flatMap (fired (reached S n (roundsF S n hs r)))).length ≤ l.length * n := by
      intro l
      induction l with
      | nil => intro _; simp
      | cons d l ih =>
        intro hl
        have h1 := ih (fun h hh => hl h (List.mem_cons_of_mem _ hh))
        have h2 : (fired (reached S n (roundsF S n hs r)) d).length ≤ d.to.toNat := firedTo_len _ _ _
        have h3 := (in_at hl (List.mem_cons_self (a := d))).2.2.2.2
        rw [List.flatMap_cons, List.length_append, List.length_cons, Nat.add_mul, Nat.one_mul]
        omega
    have := key hs hH
    show (roundF S n hs (roundsF S n hs r)).length ≤ _
    unfold roundF
    rw [List.length_append, Nat.add_mul, Nat.one_mul]
    omega
theorem closed_stays {F : List Nat} (h : Okay S n hs F) (hc : Closed S n hs F) : Closed S n hs (roundF S n hs F) := by
  have h2 := roundF_okay hS hH h
  have he : ∀ k, At (reached S n (roundF S n hs F)) k → At (reached S n F) k := fun k hk => by
    rw [closed_done hS h hc, mseen_at S n hs (by have := hk.lt; rwa [reached_len hS] at this)]
    exact h2.seen hS hk
  rintro d hd ⟨i, h3, h4, h5⟩
  exact reached_mono hS h.lt h2.lt (fun k hk => List.mem_append_left _ hk) (hc d hd ⟨i, h3, h4, he _ h5⟩)
theorem roundsF_count (h0 : 0 < n) : ∀ r, Closed S n hs (roundsF S n hs r) ∨ r ≤ atSeen (reached S n (roundsF S n hs r)) hs
  | 0 => .inr (Nat.zero_le _)
  | r + 1 => by
    have ho := roundsF_okay hS hH h0 r
    have ho2 : Okay S n hs (roundF S n hs (roundsF S n hs r)) := roundF_okay hS hH ho
    show Closed S n hs (roundF S n hs (roundsF S n hs r)) ∨ r + 1 ≤ atSeen (reached S n (roundF S n hs (roundsF S n hs r))) hs
    by_cases hc : Closed S n hs (roundsF S n hs r)
    · exact .inl (closed_stays hS hH ho hc)
    · right
      have ih := (roundsF_count h0 r).resolve_left hc
      have : ∃ d ∈ hs, fires (reached S n (roundsF S n hs r)) d ∧ ¬ At (reached S n (roundsF S n hs r)) d.at_.toNat := by
        apply Classical.byContradiction
        intro hn
        exact hc fun d hd hf => Classical.byContradiction fun ha => hn ⟨d, hd, hf, ha⟩
      obtain ⟨d, hd, hf, ha⟩ := this
      have hlt : atSeen (reached S n (roundsF S n hs r)) hs < atSeen (reached S n (roundF S n hs (roundsF S n hs r))) hs := by
        refine countP_lt (fun x hx h => ?_) ⟨d, hd, ?_, ?_⟩
        · exact decide_eq_true (p := _ = some true) (reached_mono hS ho.lt ho2.lt (fun k hk => List.mem_append_left _ hk) (of_decide_eq_true (p := _ = some true) h))
        · exact decide_eq_false (p := _ = some true) ha
        · exact decide_eq_true (p := _ = some true) (reached_has hS ho2.lt (List.mem_append_right _ (List.mem_flatMap.2 ⟨d, hd, fires_mem.2 hf⟩)))
      omega
/-- the reference's rounds end at what can be come to -/
theorem roundsF_done (h0 : 0 < n) : reached S n (roundsF S n hs (hs.length + 1)) = mseen S n hs := by
  refine closed_done hS (roundsF_okay hS hH h0 _) ((roundsF_count hS hH h0 _).resolve_right ?_)
  have := atSeen_le (hs := hs) (reached S n (roundsF S n hs (hs.length + 1)))
  omega

/-- the program's round: a handler that fires and whose place is not marked -/
noncomputable def newOne (s : List Bool) (h : Hd) : Bool := @decide (fires s h ∧ ¬ At s h.at_.toNat) (Classical.propDecidable _)
noncomputable def newTo (s : List Bool) (hs : List Hd) (k : Nat) : List Nat := ((hs.take k).filter (newOne s)).map fun h => h.at_.toNat
omit hS hH in
theorem newTo_zero (s : List Bool) : newTo s hs 0 = [] := by simp [newTo]
omit hS hH in
theorem newTo_yes {s : List Bool} {k : Nat} (hk : k < hs.length) (h : newOne s hs[k] = true) : newTo s hs (k + 1) = newTo s hs k ++ [hs[k].at_.toNat] := by
  unfold newTo; rw [List.take_succ_eq_append_getElem hk, List.filter_append, List.map_append]; simp [h]
omit hS hH in
theorem newTo_no {s : List Bool} {k : Nat} (hk : k < hs.length) (h : ¬ newOne s hs[k] = true) : newTo s hs (k + 1) = newTo s hs k := by
  unfold newTo; rw [List.take_succ_eq_append_getElem hk, List.filter_append, List.map_append]; simp [h]
omit hS hH in
theorem newTo_len (s : List Bool) (k : Nat) : (newTo s hs k).length ≤ k := by
  unfold newTo; rw [List.length_map]
  have := List.length_filter_le (newOne s) (hs.take k)
  rw [List.length_take] at this
  omega
omit hS hH in
theorem newOne_no {s : List Bool} {h : Hd} (ha : At s h.at_.toNat) : ¬ newOne s h = true := fun e => by
  unfold newOne at e
  exact (@of_decide_eq_true _ (Classical.propDecidable _) e).2 ha
omit hS hH in
theorem newOne_quiet {s : List Bool} {h : Hd} (ha : ¬ fires s h) : ¬ newOne s h = true := fun e => by
  unfold newOne at e
  exact ha (@of_decide_eq_true _ (Classical.propDecidable _) e).1
omit hS hH in
theorem newOne_yes {s : List Bool} {h : Hd} (hf : fires s h) (ha : ¬ At s h.at_.toNat) : newOne s h = true := by
  unfold newOne
  exact @decide_eq_true _ (Classical.propDecidable _) ⟨hf, ha⟩
omit hS hH in
theorem mem_newTo {s : List Bool} {k j : Nat} (h : j ∈ newTo s hs k) : ∃ d ∈ hs, j = d.at_.toNat ∧ fires s d ∧ ¬ At s j := by
  unfold newTo at h
  obtain ⟨d, hd, rfl⟩ := List.mem_map.1 h
  obtain ⟨h1, h2⟩ := List.mem_filter.1 hd
  unfold newOne at h2
  have h3 := @of_decide_eq_true _ (Classical.propDecidable _) h2
  exact ⟨d, List.mem_of_mem_take h1, rfl, h3.1, h3.2⟩
theorem new_okay {F : List Nat} (h : Okay S n hs F) (k : Nat) : Okay S n hs (F ++ newTo (reached S n F) hs k) := h.more hS hH fun j hj => by
  obtain ⟨d, hd, e, hf, _⟩ := mem_newTo hj
  exact ⟨d, hd, e, hf⟩
omit hS hH in
theorem new_closed {F : List Nat} (h : newTo (reached S n F) hs hs.length = []) : Closed S n hs F := fun d hd hf => Classical.byContradiction fun ha => by
  have : d.at_.toNat ∈ newTo (reached S n F) hs hs.length := by
    unfold newTo
    rw [List.take_length]
    exact List.mem_map.2 ⟨d, List.mem_filter.2 ⟨hd, newOne_yes hf ha⟩, rfl⟩
  rw [h] at this; cases this
omit hH in
theorem new_done {F : List Nat} (ho : Okay S n hs F) (h : newTo (reached S n F) hs hs.length = []) : reached S n F = mseen S n hs := closed_done hS ho (new_closed h)
/-- a round that adds marks more -/
theorem new_grows {F : List Nat} (ho : Okay S n hs F) {k : Nat} (h : newTo (reached S n F) hs k ≠ []) : count (reached S n F) < count (reached S n (F ++ newTo (reached S n F) hs k)) := by
  have ho2 := new_okay hS hH ho k
  obtain ⟨c1, c2⟩ := count_le_of (s := reached S n F) (t := reached S n (F ++ newTo (reached S n F) hs k)) (by rw [reached_len hS, reached_len hS]) (fun j hj => reached_mono hS ho.lt ho2.lt (fun k hk => List.mem_append_left _ hk) hj)
  obtain ⟨j, hj⟩ := List.exists_mem_of_ne_nil _ h
  obtain ⟨d, hd, e, hf, hno⟩ := mem_newTo hj
  have hat : At (reached S n (F ++ newTo (reached S n F) hs k)) j := reached_has hS ho2.lt (List.mem_append_right _ hj)
  have : ¬ count (reached S n F) = count (reached S n (F ++ newTo (reached S n F) hs k)) := fun he => hno (by rw [c2 he]; exact hat)
  omega
omit hH in
theorem count_le (F : List Nat) : count (reached S n F) ≤ n := by
  have := List.countP_le_length (p := id) (l := reached S n F)
  rwa [reached_len hS] at this
end
end Go.Proofs.YtklebfkbildifaaDoor.mseen
