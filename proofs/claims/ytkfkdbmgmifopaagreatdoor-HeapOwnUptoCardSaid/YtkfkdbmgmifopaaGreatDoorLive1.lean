/- What of a heap is still needed, in plain words. No condition. -/
import Derived.Test.YtkfkdbmgmifopaaGreatDoorWld1
namespace Go.Proofs.YtkfkdbmgmifopaaGreatDoor.worlds
open Go.RowKit Go.Proofs.YtkfkdbmgmifopaaGreatDoor.lib Go.Proofs.YtkfkdbmgmifopaaGreatDoor.maps Go.Proofs.YtkfkdbmgmifopaaGreatDoor.classes Go.Proofs.YtkfkdbmgmifopaaGreatDoor.descs

/-- a value that points to a thing -/
def Leads (v : Vl) : Prop := v.k = 3 ∧ 0 < v.n
instance (v : Vl) : Decidable (Leads v) := by unfold Leads; infer_instance
/-- the place of a thing that these values lead to -/
inductive Marks (H : List Th) (R : List Vl) : Nat → Prop
  | root {v : Vl} : v ∈ R → Leads v → Marks H R v.n.toNat
  | step {p : Nat} {x : Th} {v : Vl} : Marks H R (p + 1) → H[p]? = some x → v ∈ x.has → Leads v → Marks H R v.n.toNat
theorem Marks.sub {H : List Th} {R T : List Vl} (hs : ∀ v ∈ R, Leads v → Marks H T v.n.toNat) {i : Nat} (h : Marks H R i) : Marks H T i := by
  induction h with
  | root hv hl => exact hs _ hv hl
  | step _ hx hv hl ih => exact .step ih hx hv hl
def isM (S : List Bool) (i : Nat) : Prop := S[i]? = some true
/-- from S on, these values mark up to T -/
structure Marked (H : List Th) (R : List Vl) (S T : List Bool) : Prop where
  len : T.length = S.length
  more : ∀ i, isM S i → isM T i
  true_ : ∀ i, isM T i → isM S i ∨ Marks H R i
  roots : ∀ v ∈ R, Leads v → isM T v.n.toNat
  closed : ∀ p x, isM T (p + 1) → ¬ isM S (p + 1) → H[p]? = some x → ∀ v ∈ x.has, Leads v → isM T v.n.toNat
theorem marked_nil (H : List Th) (S : List Bool) : Marked H [] S S := ⟨rfl, fun _ h => h, fun _ h => .inl h, fun _ hv => (List.not_mem_nil hv).elim, fun _ _ h k => absurd h k⟩
theorem marked_skip {H : List Th} {R : List Vl} {S T : List Bool} (h : Marked H R S T) {v : Vl} (hv : Leads v → isM T v.n.toNat) : Marked H (R ++ [v]) S T :=
  ⟨h.len, h.more, fun i hi => (h.true_ i hi).imp_right (Marks.sub fun u hu hl => .root (List.mem_append_left _ hu) hl), fun u hu hl => by
    rcases List.mem_append.1 hu with hu | hu
    · exact h.roots u hu hl
    · obtain rfl := List.mem_singleton.1 hu; exact hv hl, h.closed⟩
theorem isM_set {S : List Bool} {j i : Nat} (hj : j < S.length) : isM (S.set j true) i ↔ i = j ∨ isM S i := by
  unfold isM
  rw [List.getElem?_set]
  by_cases h : j = i
  · subst h; simp [hj]
  · rw [if_neg h]
    exact ⟨.inr, fun h2 => h2.resolve_left fun e => h e.symm⟩
theorem marked_go {H : List Th} {R : List Vl} {S T U : List Bool} (h : Marked H R S T) {v : Vl} (hl : Leads v) {x : Th} (hx : H[v.n.toNat - 1]? = some x) (hlt : v.n.toNat < T.length)
    (h2 : Marked H x.has (T.set v.n.toNat true) U) : Marked H (R ++ [v]) S U := by
  have hT : ∀ i, isM T i → isM U i := fun i hi => h2.more i ((isM_set hlt).2 (.inr hi))
  have hp : v.n.toNat - 1 + 1 = v.n.toNat := by have := hl.2; omega
  have hvm : Marks H (R ++ [v]) (v.n.toNat - 1 + 1) := by rw [hp]; exact .root (List.mem_append_right _ (List.mem_singleton_self v)) hl
  refine ⟨by rw [h2.len, List.length_set, h.len], fun i hi => hT i (h.more i hi), fun i hi => ?_, fun u hu hlu => ?_, fun p y hy hn hpx u hu hlu => ?_⟩
  · rcases h2.true_ i hi with h3 | h3
    · rcases (isM_set hlt).1 h3 with rfl | h3
      · exact .inr (.root (List.mem_append_right _ (List.mem_singleton_self v)) hl)
      · exact (h.true_ i h3).imp_right (Marks.sub fun u hu hlu => .root (List.mem_append_left _ hu) hlu)
    · exact .inr (Marks.sub (fun u hu hlu => .step hvm hx hu hlu) h3)
  · rcases List.mem_append.1 hu with hu | hu
    · exact hT _ (h.roots u hu hlu)
    · obtain rfl := List.mem_singleton.1 hu
      exact h2.more _ ((isM_set hlt).2 (.inl rfl))
  · by_cases h3 : isM (T.set v.n.toNat true) (p + 1)
    · rcases (isM_set hlt).1 h3 with h4 | h4
      · have : p = v.n.toNat - 1 := by omega
        subst this
        rw [hx] at hpx
        cases hpx
        exact h2.roots u hu hlu
      · exact hT _ (h.closed p y h4 hn hpx u hu hlu)
    · exact h2.closed p y hy h3 hpx u hu hlu
/-- what is marked from nothing on is what the values lead to -/
theorem marked_is {H : List Th} {R : List Vl} {n : Nat} {T : List Bool} (h : Marked H R (List.replicate n false) T) (i : Nat) : isM T i ↔ Marks H R i := by
  have hno : ∀ i, ¬ isM (List.replicate n false) i := fun i hi => by
    unfold isM at hi
    rw [List.getElem?_replicate] at hi
    split at hi <;> simp at hi
  constructor
  · intro hi
    exact (h.true_ i hi).resolve_left (hno i)
  · intro hi
    induction hi with
    | root hv hl => exact h.roots _ hv hl
    | step hm hx hv hl ih => exact h.closed _ _ ih (hno _) hx _ hv hl
/-- how many are not marked yet -/
def left (S : List Bool) : Nat := (S.filter fun b => !b).length
theorem left_set : ∀ {S : List Bool} {j : Nat}, S[j]? = some false → left (S.set j true) + 1 = left S
  | [], j, h => by simp at h
  | b :: S, 0, h => by
    simp only [List.getElem?_cons_zero, Option.some.injEq] at h
    subst h
    simp [left]
  | b :: S, j + 1, h => by
    have := left_set (S := S) (j := j) (by simpa using h)
    unfold left at this ⊢
    rw [List.set_cons_succ, List.filter_cons, List.filter_cons]
    split
    · simp only [List.length_cons]; omega
    · exact this
theorem left_more : ∀ {S T : List Bool}, T.length = S.length → (∀ i, isM S i → isM T i) → left T ≤ left S
  | [], [], _, _ => by simp [left]
  | [], _ :: _, h, _ => by simp at h
  | _ :: _, [], h, _ => by simp at h
  | a :: S, b :: T, h, hm => by
    have ih := left_more (S := S) (T := T) (by simpa using h) (fun i hi => hm (i + 1) hi)
    have h0 : a = true → b = true := fun e => by
      have := hm 0 (by subst e; rfl)
      simpa [isM] using this
    unfold left at ih ⊢
    cases a <;> cases b <;> simp at h0 ⊢ <;> omega
/-- the places of what is marked -/
def placesL (S : List Bool) : List Int := ((List.range S.length).filter fun i => S.getD i false).map Int.ofNat
/-- the new place of a thing; 0: it goes -/
def rankOf (S : List Bool) (i : Nat) : Int := if S.getD i false = true then ((S.take (i + 1)).filter id).length else 0
def movedV (S : List Bool) (v : Vl) : Vl := if v.k = 3 then ⟨3, rankOf S v.n.toNat⟩ else v
end Go.Proofs.YtkfkdbmgmifopaaGreatDoor.worlds

/- What is swept, in plain words: the places, what stays, and sweeping anew. No condition. -/
namespace Go.Proofs.YtkfkdbmgmifopaaGreatDoor.worlds
open Go.RowKit Go.Proofs.YtkfkdbmgmifopaaGreatDoor.lib Go.Proofs.YtkfkdbmgmifopaaGreatDoor.maps Go.Proofs.YtkfkdbmgmifopaaGreatDoor.classes Go.Proofs.YtkfkdbmgmifopaaGreatDoor.descs

/-- what stands at a true place -/
def keepB {α : Type} : List Bool → List α → List α
  | b :: bs, x :: xs => if b = true then x :: keepB bs xs else keepB bs xs
  | [], _ => []
  | _ :: _, [] => []
theorem keep_nil {α : Type} (bs : List Bool) : keepB bs ([] : List α) = [] := by cases bs <;> rfl
theorem keep_step {α : Type} : ∀ {bs : List Bool} {xs : List α} {k : Nat} (h1 : k < bs.length) (h2 : k < xs.length),
    keepB (bs.take (k + 1)) (xs.take (k + 1)) = keepB (bs.take k) (xs.take k) ++ (if bs[k] = true then [xs[k]] else [])
  | [], _, _, h, _ => by simp at h
  | _ :: _, [], _, _, h => by simp at h
  | b :: bs, x :: xs, 0, _, _ => by simp [keepB]
  | b :: bs, x :: xs, k + 1, h1, h2 => by
    have ih := keep_step (bs := bs) (xs := xs) (k := k) (by simpa using h1) (by simpa using h2)
    simp only [List.take_succ_cons, keepB, List.getElem_cons_succ]
    rw [ih]
    cases b <;> simp
def cnt1 (S : List Bool) : Nat := (S.filter id).length
theorem cnt_step {S : List Bool} {k : Nat} (h : k < S.length) : cnt1 (S.take (k + 1)) = cnt1 (S.take k) + (if S[k] = true then 1 else 0) := by
  unfold cnt1
  rw [List.take_add_one, List.getElem?_eq_getElem h, List.filter_append, List.length_append]
  cases S[k] <;> simp
theorem keep_at {α : Type} : ∀ {bs : List Bool} {xs : List α} {i : Nat}, bs.length = xs.length → bs[i]? = some true → (keepB bs xs)[cnt1 (bs.take i)]? = xs[i]?
  | [], _, _, _, h => by simp at h
  | _ :: _, [], _, h, _ => by simp at h
  | b :: bs, x :: xs, 0, _, h => by
    simp only [List.getElem?_cons_zero, Option.some.injEq] at h
    subst h
    simp [keepB, cnt1]
  | b :: bs, x :: xs, i + 1, hl, h => by
    have ih := keep_at (bs := bs) (xs := xs) (i := i) (by simpa using hl) (by simpa using h)
    unfold cnt1 at ih ⊢
    cases b <;> simp [keepB, ih]
theorem keep_from {α : Type} : ∀ {bs : List Bool} {xs : List α} {j : Nat} {y : α}, (keepB bs xs)[j]? = some y → ∃ i, bs[i]? = some true ∧ xs[i]? = some y ∧ j = cnt1 (bs.take i)
  | [], _, _, _, h => by simp [keepB] at h
  | _ :: _, [], _, _, h => by simp [keepB] at h
  | b :: bs, x :: xs, j, y, h => by
    cases b with
    | false =>
      simp only [keepB, Bool.false_eq_true, if_false] at h
      obtain ⟨i, h1, h2, h3⟩ := keep_from h
      exact ⟨i + 1, by simpa using h1, by simpa using h2, by simpa [cnt1] using h3⟩
    | true =>
      simp only [keepB, if_true] at h
      cases j with
      | zero => exact ⟨0, by simp, by simpa using h, by simp [cnt1]⟩
      | succ j =>
        obtain ⟨i, h1, h2, h3⟩ := keep_from (bs := bs) (xs := xs) (j := j) (by simpa using h)
        exact ⟨i + 1, by simpa using h1, by simpa using h2, by simp [cnt1] at h3 ⊢; exact h3⟩
theorem keep_mem {α : Type} {bs : List Bool} {xs : List α} {y : α} (h : y ∈ keepB bs xs) : ∃ i : Nat, bs[i]? = some true ∧ xs[i]? = some y := by
  obtain ⟨j, hj, e⟩ := List.getElem_of_mem h
  obtain ⟨i, h1, h2, _⟩ := keep_from (bs := bs) (xs := xs) (j := j) (y := y) (by rw [List.getElem?_eq_getElem hj, e])
  exact ⟨i, h1, h2⟩
theorem keep_len {α : Type} : ∀ {bs : List Bool} {xs : List α}, bs.length = xs.length → (keepB bs xs).length = cnt1 bs
  | [], [], _ => rfl
  | [], _ :: _, h => by simp at h
  | _ :: _, [], h => by simp at h
  | b :: bs, x :: xs, h => by
    have ih := keep_len (bs := bs) (xs := xs) (by simpa using h)
    unfold cnt1 at ih ⊢
    cases b <;> simp [keepB, ih]
theorem keep_le {α : Type} : ∀ (bs : List Bool) (xs : List α), (keepB bs xs).length ≤ xs.length
  | [], xs => by simp [keepB]
  | _ :: _, [] => by simp [keepB]
  | b :: bs, x :: xs => by
    have ih := keep_le bs xs
    cases b <;> simp [keepB] <;> omega
theorem keep_all {α : Type} : ∀ (xs : List α), keepB (List.replicate xs.length true) xs = xs
  | [] => rfl
  | x :: xs => by
    have := keep_all xs
    simp [List.replicate_succ, keepB, this]

/-- a thing without its slice -/
def bare (x : Th) : Th := ⟨x.ty, .slice none 0 0, x.has⟩
/-- a thing with its values' places anew -/
def bareT (T : List Bool) (x : Th) : Th := ⟨x.ty, .slice none 0 0, x.has.map (movedV T)⟩
def sweptH (T : List Bool) (H : List Th) : List Th := (keepB (T.drop 1) H).map (bareT T)
theorem ff_map {S T : Type} {f : T → Int} (g : S → T) : ∀ (l : List S), firstF f (l.map g) = firstF (fun x => f (g x)) l
  | [] => rfl
  | x :: r => by
    have := ff_map (f := f) g r
    simp only [List.map_cons, firstF, this]
theorem ff_cong {T : Type} {f g : T → Int} (h : ∀ x, f x = g x) (l : List T) : firstF f l = firstF g l := by rw [show f = g from funext h]
theorem does_bare (W : WL) (H : List Th) (v : Vl) (t : List UInt8) : doesV W (H.map bare) v t = doesV W H v t := by
  unfold doesV
  rw [List.length_map, List.getElem?_map]
  cases H[(v.n - 1).toNat]? <;> rfl
theorem vals_bare (W : WL) (H : List Th) (x : Th) : valsF W (H.map bare) (bare x) = valsF W H x := by
  unfold valsF
  have : (fun p : ByteArray × Vl => doesV W (H.map bare) p.2 p.1.data.toList) = fun p => doesV W H p.2 p.1.data.toList := funext fun p => does_bare W H p.2 _
  rw [this]
  rfl
theorem right_bare (W : WL) (H : List Th) : rightF W (H.map bare) = rightF W H := by
  unfold rightF
  rw [List.length_map, ff_map, ff_map]
  rw [ff_cong (fun x => vals_bare W H x) H]
  rfl
theorem roots_bare (l : List CV) (H : List Th) (R : List Vl) : rootsF l (H.map bare) R = rootsF l H R := by
  unfold rootsF heapF
  have : ∀ v, rootF (readW l).2 (H.map bare) v = rootF (readW l).2 H v := fun v => by
    unfold rootF rootOk
    rw [does_bare, does_bare, does_bare]
  rw [right_bare, ff_cong this]
theorem swept_of {G H : List Th} {T : List Bool} (h : G.map bare = sweptH T H) : (∀ W, rightF W G = rightF W (sweptH T H)) ∧ G.length = (sweptH T H).length := by
  refine ⟨fun W => by rw [← h, right_bare], by rw [← h, List.length_map]⟩

theorem no_zero {H : List Th} {R : List Vl} {i : Nat} (h : Marks H R i) : 0 < i := by
  cases h with
  | root _ hl => have := hl.2; omega
  | step _ _ _ hl => have := hl.2; omega
/-- what stands marked in a heap, whose things all lead into it -/
structure Done (H : List Th) (R : List Vl) (bs : List Bool) : Prop where
  len : bs.length = H.length
  is : ∀ i, bs[i]? = some true ↔ Marks H R (i + 1)
theorem marked_done {H : List Th} {R : List Vl} {T : List Bool} (h : Marked H R (List.replicate (H.length + 1) false) T) : ∃ bs, T = false :: bs ∧ Done H R bs := by
  have hl := h.len
  rw [List.length_replicate] at hl
  cases T with
  | nil => simp at hl
  | cons b bs =>
    have h0 : b = false := by
      cases b with
      | false => rfl
      | true => exact absurd (no_zero ((marked_is h 0).1 rfl)) (Nat.lt_irrefl _)
    subst h0
    refine ⟨bs, rfl, by simpa using hl, fun i => ?_⟩
    rw [← marked_is h (i + 1)]
    unfold isM
    simp
theorem rank_zero (bs : List Bool) : rankOf (false :: bs) 0 = 0 := by simp [rankOf]
theorem rank_no {bs : List Bool} {i : Nat} (h : ¬ bs[i]? = some true) : rankOf (false :: bs) (i + 1) = 0 := by
  unfold rankOf
  rw [if_neg]
  rw [List.getD_eq_getElem?_getD, List.getElem?_cons_succ]
  cases hb : bs[i]? with
  | none => simp
  | some b => rw [hb] at h; simpa using h
theorem rank_yes {bs : List Bool} {i : Nat} (h : bs[i]? = some true) : rankOf (false :: bs) (i + 1) = (cnt1 (bs.take i) : Int) + 1 := by
  have hi : i < bs.length := (List.getElem?_eq_some_iff.1 h).1
  have he : bs[i] = true := (List.getElem?_eq_some_iff.1 h).2
  have := cnt_step hi
  unfold rankOf
  rw [if_pos (by rw [List.getD_eq_getElem?_getD, List.getElem?_cons_succ, h]; rfl), List.take_succ_cons]
  unfold cnt1 at this ⊢
  rw [he, if_pos rfl] at this
  simp only [List.filter_cons, id, Bool.false_eq_true, if_false]
  rw [this]
  omega
theorem points_marks {H : List Th} {R : List Vl} (hH : ∀ x ∈ H, ∀ v ∈ x.has, Points H v) (hR : ∀ v ∈ R, Points H v) {i : Nat} (h : Marks H R i) : i ≤ H.length := by
  cases h with
  | root hv hl => have := hR _ hv hl.1; omega
  | step _ hx hv hl => have := hH _ (List.mem_of_getElem? hx) _ hv hl.1; omega

theorem swept_len (bs : List Bool) (H : List Th) : (sweptH (false :: bs) H).length ≤ H.length := by
  unfold sweptH
  rw [List.length_map]
  exact keep_le _ _
theorem swept_at {H : List Th} {bs : List Bool} (hl : bs.length = H.length) {p : Nat} {x : Th} (hb : bs[p]? = some true) (hx : H[p]? = some x) : (sweptH (false :: bs) H)[cnt1 (bs.take p)]? = some (bareT (false :: bs) x) := by
  unfold sweptH
  rw [List.drop_succ_cons, List.drop_zero, List.getElem?_map, keep_at hl hb, hx]
  rfl
theorem swept_mem {H : List Th} {bs : List Bool} {y : Th} (h : y ∈ sweptH (false :: bs) H) : ∃ (i : Nat) (x : Th), bs[i]? = some true ∧ H[i]? = some x ∧ y = bareT (false :: bs) x := by
  obtain ⟨x, hx, rfl⟩ := List.mem_map.1 h
  obtain ⟨i, h1, h2⟩ := keep_mem hx
  exact ⟨i, x, h1, h2, rfl⟩
/-- a value of a swept heap fits as it did -/
theorem does_moved {W : WL} {H : List Th} {bs : List Bool} (hl : bs.length = H.length) {v : Vl} {t : List UInt8} (h : doesV W H v t = true) (hm : Leads v → isM (false :: bs) v.n.toNat) : doesV W (sweptH (false :: bs) H) (movedV (false :: bs) v) t = true := by
  by_cases hk : v.k = 3
  · have hmv : movedV (false :: bs) v = ⟨3, rankOf (false :: bs) v.n.toNat⟩ := by unfold movedV; rw [if_pos hk]
    rw [hmv]
    unfold doesV at h ⊢
    rw [if_neg (by omega), if_neg (by omega), if_pos hk] at h
    simp only
    rw [if_neg (by decide), if_neg (by decide), if_pos trivial]
    by_cases h1 : refs t = false ∨ v.n < 0 ∨ (H.length : Int) < v.n
    · rw [if_pos h1] at h; cases h
    rw [if_neg h1] at h
    have hr : ¬ refs t = false := fun e => h1 (.inl e)
    have hn0 : 0 ≤ v.n := by omega
    by_cases h0 : v.n = 0
    · rw [h0]
      have hz : rankOf (false :: bs) (Int.toNat 0) = 0 := rank_zero bs
      rw [hz, if_neg (by rintro (e | e | e); exact hr e; omega; omega), if_pos rfl]
    · rw [if_neg h0] at h
      obtain ⟨p, hp⟩ : ∃ p : Nat, v.n = (p : Int) + 1 := ⟨(v.n - 1).toNat, by omega⟩
      have e1 : v.n.toNat = p + 1 := by omega
      have e2 : (v.n - 1).toNat = p := by omega
      have hpl : p < H.length := by omega
      have hb : bs[p]? = some true := by
        have := hm ⟨hk, by omega⟩
        rw [e1] at this
        unfold isM at this
        simpa using this
      rw [e1, rank_yes hb]
      rw [e2, List.getElem?_eq_getElem hpl] at h
      have hat := swept_at hl hb (List.getElem?_eq_getElem hpl)
      have hlt : cnt1 (bs.take p) < (sweptH (false :: bs) H).length := (List.getElem?_eq_some_iff.1 hat).1
      rw [if_neg (by rintro (e | e | e); exact hr e; omega; omega), if_neg (by omega)]
      have e3 : (((cnt1 (bs.take p) : Int) + 1 - 1)).toNat = cnt1 (bs.take p) := by omega
      rw [e3, hat]
      exact h
  · have hmv : movedV (false :: bs) v = v := by unfold movedV; rw [if_neg hk]
    rw [hmv]
    unfold doesV at h ⊢
    rw [if_neg hk] at h ⊢
    exact h
theorem form_moved (W : WL) (T : List Bool) (x : Th) : formF W (bareT T x) = formF W x := by
  unfold formF bareT
  simp only [List.length_map]
theorem form_len {W : WL} {x : Th} (h : formF W x = 0) : (typesT W x.ty.data.toList x.has.length).length = x.has.length := by
  unfold formF at h
  split at h
  · cases h
  split at h
  · rename_i _ g; exact absurd h g
  split at h
  · cases h
  split at h
  · cases h
  · rename_i g
    exact Classical.byContradiction fun hc => g (.inr hc)
/-- a swept heap is right -/
theorem swept_right {W : WL} {H : List Th} {R : List Vl} {bs : List Bool} (hd : Done H R bs) (h : rightF W H = 0) : rightF W (sweptH (false :: bs) H) = 0 := by
  have hp := right_points h
  unfold rightF at h
  by_cases h0 : 50 < H.length
  · rw [if_pos h0] at h; cases h
  rw [if_neg h0] at h
  by_cases h1 : firstF (formF W) H ≠ 0
  · rw [if_pos h1] at h; exact absurd h h1
  rw [if_neg h1] at h
  have h1' : firstF (formF W) H = 0 := by simpa using h1
  unfold rightF
  have hlen := swept_len bs H
  rw [if_neg (by omega)]
  have hf : firstF (formF W) (sweptH (false :: bs) H) = 0 := ff_all.2 fun y hy => by
    obtain ⟨i, x, _, hx, rfl⟩ := swept_mem hy
    rw [form_moved]
    exact ff_all.1 h1' x (List.mem_of_getElem? hx)
  rw [hf, if_neg (by decide)]
  refine ff_all.2 fun y hy => ?_
  obtain ⟨i, x, hb, hx, rfl⟩ := swept_mem hy
  have hxm := List.mem_of_getElem? hx
  have hv := ff_all.1 h x hxm
  unfold valsF at hv ⊢
  by_cases ha : (((typesT W x.ty.data.toList x.has.length).zip x.has).all fun p => doesV W H p.2 p.1.data.toList) = true
  · rw [if_pos]
    refine List.all_eq_true.2 fun p hpz => ?_
    unfold bareT at hpz
    simp only [List.length_map] at hpz
    rw [List.zip_map_right] at hpz
    obtain ⟨q, hq, rfl⟩ := List.mem_map.1 hpz
    refine does_moved hd.len (List.all_eq_true.1 ha q hq) fun hl => ?_
    have hqv : q.2 ∈ x.has := (List.of_mem_zip (a := q.1) (b := q.2) hq).2
    have hm : Marks H R q.2.n.toNat := .step ((hd.is i).1 hb) hx hqv hl
    obtain ⟨m, hm2⟩ : ∃ m, q.2.n.toNat = m + 1 := ⟨q.2.n.toNat - 1, by have := no_zero hm; omega⟩
    rw [hm2] at hm ⊢
    unfold isM
    rw [List.getElem?_cons_succ]
    exact (hd.is m).2 hm
  · rw [if_neg ha] at hv; cases hv
theorem swept_roots {l : List CV} {H : List Th} {R : List Vl} {bs : List Bool} (hd : Done H R bs) (h : rootsF l H R = 0) : rootsF l (sweptH (false :: bs) H) (R.map (movedV (false :: bs))) = 0 := by
  unfold rootsF heapF at h ⊢
  by_cases h0 : (readW l).1 ≠ 0
  · rw [if_pos h0, if_pos h0] at h; exact absurd h h0
  rw [if_neg h0] at h ⊢
  by_cases h1 : rightF (readW l).2 H ≠ 0
  · rw [if_pos h1] at h; exact absurd h h1
  rw [if_neg h1] at h
  have h1' : rightF (readW l).2 H = 0 := by simpa using h1
  rw [swept_right hd h1', if_neg (by decide), List.length_map]
  by_cases h2 : 50 < R.length
  · rw [if_pos h2] at h; cases h
  rw [if_neg h2] at h ⊢
  rw [ff_map]
  refine ff_all.2 fun v hv => ?_
  have hr := ff_all.1 h v hv
  unfold rootF at hr ⊢
  by_cases ho : rootOk (readW l).2 H v = true
  · rw [if_pos]
    have hm : Leads v → isM (false :: bs) v.n.toNat := fun hl => by
      have hm : Marks H R v.n.toNat := .root hv hl
      obtain ⟨m, hm2⟩ : ∃ m, v.n.toNat = m + 1 := ⟨v.n.toNat - 1, by have := no_zero hm; omega⟩
      rw [hm2] at hm ⊢
      unfold isM
      rw [List.getElem?_cons_succ]
      exact (hd.is m).2 hm
    unfold rootOk at ho ⊢
    simp only [Bool.or_eq_true] at ho ⊢
    rcases ho with ho | ho | ho
    · exact .inl (does_moved hd.len ho hm)
    · exact .inr (.inl (does_moved hd.len ho hm))
    · exact .inr (.inr (does_moved hd.len ho hm))
  · rw [if_neg ho] at hr; cases hr
/-- what is marked in a swept heap: all -/
theorem swept_marks {H : List Th} {R : List Vl} {bs : List Bool} (hd : Done H R bs) {i : Nat} (h : Marks H R i) : Marks (sweptH (false :: bs) H) (R.map (movedV (false :: bs))) (rankOf (false :: bs) i).toNat := by
  have key : ∀ {v : Vl}, Leads v → Marks H R v.n.toNat → Leads (movedV (false :: bs) v) ∧ (movedV (false :: bs) v).n = rankOf (false :: bs) v.n.toNat := fun {v} hl hm => by
    have hmv : movedV (false :: bs) v = ⟨3, rankOf (false :: bs) v.n.toNat⟩ := by unfold movedV; rw [if_pos hl.1]
    rw [hmv]
    refine ⟨⟨rfl, ?_⟩, rfl⟩
    obtain ⟨m, hm2⟩ : ∃ m, v.n.toNat = m + 1 := ⟨v.n.toNat - 1, by have := no_zero hm; omega⟩
    rw [hm2] at hm
    simp only
    rw [hm2, rank_yes ((hd.is m).2 hm)]
    omega
  induction h with
  | root hv hl =>
    obtain ⟨k1, k2⟩ := key hl (.root hv hl)
    rw [← k2]
    exact .root (List.mem_map.2 ⟨_, hv, rfl⟩) k1
  | @step p x v hm hx hv hl ih =>
    obtain ⟨k1, k2⟩ := key hl (.step hm hx hv hl)
    rw [← k2]
    have hb := (hd.is _).2 hm
    rw [rank_yes hb, show ((cnt1 (bs.take p) : Int) + 1).toNat = cnt1 (bs.take p) + 1 from by omega] at ih
    exact .step ih (swept_at hd.len hb hx) (List.mem_map.2 ⟨_, hv, rfl⟩) k1
theorem swept_done {H : List Th} {R : List Vl} {bs cs : List Bool} (hd : Done H R bs) (hc : Done (sweptH (false :: bs) H) (R.map (movedV (false :: bs))) cs) : cs = List.replicate (sweptH (false :: bs) H).length true := by
  refine List.ext_getElem (by rw [hc.len, List.length_replicate]) fun j h1 h2 => ?_
  rw [List.getElem_replicate]
  have hj : j < (sweptH (false :: bs) H).length := by rw [← hc.len]; exact h1
  have hk : (keepB bs H)[j]? = some ((keepB bs H)[j]'(by unfold sweptH at hj; rw [List.length_map] at hj; exact hj)) := List.getElem?_eq_getElem _
  obtain ⟨i, hb, hx, e⟩ := keep_from hk
  have hm := swept_marks hd ((hd.is i).1 hb)
  rw [rank_yes hb, ← e, show ((j : Int) + 1).toNat = j + 1 from by omega] at hm
  have := (hc.is j).2 hm
  rw [List.getElem?_eq_getElem h1] at this
  exact Option.some.inj this
theorem cnt_true (n : Nat) : cnt1 (List.replicate n true) = n := by
  unfold cnt1
  rw [List.filter_eq_self.2 (by intro a ha; exact (List.mem_replicate.1 ha).2), List.length_replicate]
theorem rank_true {n i : Nat} (h : i ≤ n) : rankOf (false :: List.replicate n true) i = (i : Int) := by
  cases i with
  | zero => exact rank_zero _
  | succ i =>
    rw [rank_yes (by rw [List.getElem?_replicate, if_pos (by omega)]), List.take_replicate, cnt_true]
    omega
theorem moved_true {n : Nat} {v : Vl} (h : v.k = 3 → 0 ≤ v.n ∧ v.n ≤ (n : Int)) : movedV (false :: List.replicate n true) v = v := by
  unfold movedV
  by_cases hk : v.k = 3
  · rw [if_pos hk]
    have := h hk
    rw [rank_true (by omega)]
    obtain ⟨k, m⟩ := v
    simp only at hk this ⊢
    subst hk
    congr 1
    omega
  · rw [if_neg hk]
theorem swept_same {G : List Th} (h : ∀ x ∈ G, ∀ v ∈ x.has, Points G v) : sweptH (false :: List.replicate G.length true) G = G.map bare := by
  unfold sweptH
  rw [List.drop_succ_cons, List.drop_zero, keep_all]
  refine List.map_congr_left fun x hx => ?_
  unfold bareT bare
  congr 1
  have : x.has.map (movedV (false :: List.replicate G.length true)) = x.has.map id := List.map_congr_left fun v hv => moved_true (h x hx v hv)
  rw [this, List.map_id]

/-- places of what is marked, up to k -/
theorem places_step {S : List Bool} {k : Nat} (h : k < S.length) : placesL (S.take (k + 1)) = placesL (S.take k) ++ (if S[k] = true then [(k : Int)] else []) := by
  unfold placesL
  rw [List.length_take, List.length_take, Nat.min_eq_left (by omega), Nat.min_eq_left (by omega), List.range_succ, List.filter_append, List.map_append]
  congr 1
  · congr 1
    refine List.filter_congr fun i hi => ?_
    have := List.mem_range.1 hi
    rw [List.getD_eq_getElem?_getD, List.getD_eq_getElem?_getD, List.getElem?_take, List.getElem?_take, if_pos (by omega), if_pos (by omega)]
  · have hg : (S.take (k + 1)).getD k false = S[k] := by
      rw [List.getD_eq_getElem?_getD, List.getElem?_take, if_pos (by omega), List.getElem?_eq_getElem h]
      rfl
    rw [List.filter_cons, hg]
    cases S[k] <;> simp
theorem places_len : ∀ (S : List Bool) (k : Nat), k ≤ S.length → (placesL (S.take k)).length = cnt1 (S.take k)
  | S, 0, _ => by simp [placesL, cnt1]
  | S, k + 1, h => by
    have ih := places_len S k (by omega)
    rw [places_step (by omega), cnt_step (by omega), List.length_append, ih]
    split <;> rfl
theorem cnt_le (S : List Bool) : cnt1 S ≤ S.length := List.length_filter_le _ _
theorem places_all (S : List Bool) : placesL (S.take S.length) = placesL S := by rw [List.take_length]
/-- marked by two lists of roots -/
theorem marks_both {H : List Th} {A B : List Vl} {i : Nat} : Marks H (A ++ B) i ↔ Marks H A i ∨ Marks H B i := by
  constructor
  · intro h
    induction h with
    | root hv hl =>
      rcases List.mem_append.1 hv with hv | hv
      · exact .inl (.root hv hl)
      · exact .inr (.root hv hl)
    | step _ hx hv hl ih =>
      rcases ih with ih | ih
      · exact .inl (.step ih hx hv hl)
      · exact .inr (.step ih hx hv hl)
  · rintro (h | h)
    · exact Marks.sub (fun v hv hl => .root (List.mem_append_left _ hv) hl) h
    · exact Marks.sub (fun v hv hl => .root (List.mem_append_right _ hv) hl) h
/-- the map of places, up to k -/
def placeM (S : List Bool) (k : Nat) : List (Int × Value) := (placesL (S.take k)).map fun i => (i, .int .i64 (rankOf S i.toNat))
theorem placeM_len {S : List Bool} {k : Nat} (h : k ≤ S.length) : (placeM S k).length = cnt1 (S.take k) := by
  unfold placeM
  rw [List.length_map, places_len S k h]
theorem mem_places {S : List Bool} {k : Nat} {z : Int} (h : z ∈ placesL (S.take k)) : ∃ i : Nat, z = (i : Int) ∧ i < k ∧ S[i]? = some true := by
  unfold placesL at h
  obtain ⟨i, hi, rfl⟩ := List.mem_map.1 h
  obtain ⟨h1, h2⟩ := List.mem_filter.1 hi
  have h3 := List.mem_range.1 h1
  rw [List.length_take] at h3
  refine ⟨i, rfl, by omega, ?_⟩
  rw [List.getD_eq_getElem?_getD, List.getElem?_take, if_pos (by omega)] at h2
  cases hs : S[i]? with
  | none => rw [hs] at h2; simp at h2
  | some b => rw [hs] at h2; simp at h2; rw [h2]
theorem set_new {l : List (Int × Value)} {k : Int} {v : Value} (h : ∀ p ∈ l, p.1 ≠ k) : setK l k v = l ++ [(k, v)] := by
  induction l with
  | nil => rfl
  | cons x r ih =>
    obtain ⟨j, u⟩ := x
    have h1 : ¬ k = j := fun e => h (j, u) (List.mem_cons_self ..) e.symm
    simp only [setK, if_neg h1, List.cons_append]
    rw [ih fun p hp => h p (List.mem_cons_of_mem _ hp)]
theorem placeM_yes {S : List Bool} {k : Nat} (h : k < S.length) (hb : S[k] = true) : placeM S (k + 1) = setK (placeM S k) (k : Int) (.int .i64 ((cnt1 (S.take k) : Int) + 1)) := by
  have hnew : ∀ p ∈ placeM S k, p.1 ≠ (k : Int) := fun p hp => by
    unfold placeM at hp
    obtain ⟨z, hz, rfl⟩ := List.mem_map.1 hp
    obtain ⟨i, rfl, hi, _⟩ := mem_places hz
    simp only
    omega
  rw [set_new hnew]
  unfold placeM
  rw [places_step h, hb, if_pos rfl, List.map_append]
  congr 1
  have hs := cnt_step h
  rw [hb, if_pos rfl] at hs
  simp only [List.map_cons, List.map_nil, Int.toNat_natCast]
  unfold rankOf
  rw [if_pos (by rw [List.getD_eq_getElem?_getD, List.getElem?_eq_getElem h, hb]; rfl)]
  unfold cnt1 at hs ⊢
  rw [hs]
  simp
theorem placeM_no {S : List Bool} {k : Nat} (h : k < S.length) (hb : ¬ S[k] = true) : placeM S (k + 1) = placeM S k := by
  unfold placeM
  rw [places_step h, if_neg hb, List.append_nil]
theorem get_map {f : Int → Value} : ∀ {l : List Int} {z : Int}, getK (l.map fun i => (i, f i)) z = if z ∈ l then some (f z) else none
  | [], z => by simp [getK]
  | x :: r, z => by
    have ih := get_map (f := f) (l := r) (z := z)
    simp only [List.map_cons, getK, List.mem_cons]
    by_cases h : z = x
    · subst h; simp
    · rw [if_neg h, ih]
      simp [h]
theorem placeM_get (S : List Bool) (z : Int) : (getK (placeM S S.length) z).getD (.int .i64 0) = .int .i64 (if z < 0 then 0 else rankOf S z.toNat) := by
  unfold placeM
  rw [get_map]
  by_cases hm : z ∈ placesL (S.take S.length)
  · rw [if_pos hm]
    obtain ⟨i, rfl, _, _⟩ := mem_places hm
    rw [if_neg (by omega)]
    rfl
  · rw [if_neg hm]
    simp only [Option.getD_none]
    by_cases hz : z < 0
    · rw [if_pos hz]
    · rw [if_neg hz]
      obtain ⟨i, rfl⟩ : ∃ i : Nat, z = (i : Int) := ⟨z.toNat, by omega⟩
      rw [Int.toNat_natCast]
      unfold rankOf
      rw [if_neg]
      intro hb
      apply hm
      unfold placesL
      rw [List.take_length]
      refine List.mem_map.2 ⟨i, List.mem_filter.2 ⟨List.mem_range.2 ?_, hb⟩, rfl⟩
      rw [List.getD_eq_getElem?_getD] at hb
      cases hs : S[i]? with
      | none => rw [hs] at hb; simp at hb
      | some b => exact (List.getElem?_eq_some_iff.1 hs).1
end Go.Proofs.YtkfkdbmgmifopaaGreatDoor.worlds
