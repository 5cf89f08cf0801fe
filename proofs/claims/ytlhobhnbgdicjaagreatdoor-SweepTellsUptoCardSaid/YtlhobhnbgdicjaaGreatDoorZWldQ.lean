/- What of a heap is still needed, in plain words. No condition. -/
import Derived.Maps.RangeWalk
import Derived.Test.YtlhobhnbgdicjaaGreatDoorZWld1
import Derived.Test.YtlhobhnbgdicjaaGreatDoorZWldK
import Derived.Test.YtlhobhnbgdicjaaGreatDoorZGrow
import Derived.Laws.StructEq
import Derived.BigQuiet
import Derived.Test.YtlhobhnbgdicjaaGreatDoorZOwn
import Derived.Laws.EntriesVeiled
import Derived.StillTail
import Derived.Test.YtlhobhnbgdicjaaGreatDoorZRet
namespace Go.Proofs.YtlhobhnbgdicjaaGreatDoor.worlds
open Go.RowKit lib maps classes descs
def Leads (v : Vl) : Prop := v.k = 3 ∧ 0 < v.n
instance (v : Vl) : Decidable (Leads v) := by unfold Leads; infer_instance
inductive Marks (H : List Th) (R : List Vl) : Nat → Prop
 | root {v : Vl} : v ∈ R → Leads v → Marks H R v.n.toNat
 | step {p : Nat} {x : Th} {v : Vl} : Marks H R (p + 1) → H[p]? = some x → v ∈ x.has → Leads v → Marks H R v.n.toNat
theorem Marks.sub {H : List Th} {R T : List Vl} (hs : ∀ v ∈ R, Leads v → Marks H T v.n.toNat) {i : Nat} (h : Marks H R i) : Marks H T i := by
 induction h with
 | root hv hl => exact hs _ hv hl
 | step _ hx hv hl ih => exact .step ih hx hv hl
def isM (S : List Bool) (i : Nat) : Prop := S[i]? = some true
structure Marked (H : List Th) (R : List Vl) (S T : List Bool) : Prop where
 len : T.length = S.length
 more : ∀ i, isM S i → isM T i
 true_ : ∀ i, isM T i → isM S i ∨ Marks H R i
 roots : ∀ v ∈ R, Leads v → isM T v.n.toNat
 closed : ∀ p x, isM T (p + 1) → ¬ isM S (p + 1) → H[p]? = some x → ∀ v ∈ x.has, Leads v → isM T v.n.toNat
theorem marked_nil (H : List Th) (S : List Bool) : Marked H [] S S := ⟨rfl, fun _ h => h, fun _ h => .inl h, fun _ hv => (List.not_mem_nil hv).elim, fun _ _ h k => absurd h k⟩
theorem marked_skip {H : List Th} {R : List Vl} {S T : List Bool} (h : Marked H R S T) {v : Vl} (hv : Leads v → isM T v.n.toNat) : Marked H (R ++ [v]) S T :=
 ⟨h.len, h.more, fun i hi => (h.true_ i hi).imp_right (Marks.sub fun u hu hl => .root (List.mem_append_left _ hu) hl), fun u hu hl => by
  rcases List.mem_append.1 hu with hu | hu
  ·exact h.roots u hu hl
  ·obtain rfl := List.mem_singleton.1 hu; exact hv hl, h.closed⟩
theorem isM_set {S : List Bool} {j i : Nat} (hj : j < S.length) : isM (S.set j true) i ↔ i = j ∨ isM S i := by
 unfold isM
 rw [List.getElem?_set]
 by_cases h : j = i
 ·subst h; simp [hj]
 ·rw [if_neg h]
  exact ⟨.inr, fun h2 => h2.resolve_left fun e => h e.symm⟩
theorem marked_go {H : List Th} {R : List Vl} {S T U : List Bool} (h : Marked H R S T) {v : Vl} (hl : Leads v) {x : Th} (hx : H[v.n.toNat - 1]? = some x) (hlt : v.n.toNat < T.length)
  (h2 : Marked H x.has (T.set v.n.toNat true) U) : Marked H (R ++ [v]) S U := by
 have hT : ∀ i, isM T i → isM U i := fun i hi => h2.more i ((isM_set hlt).2 (.inr hi))
 have hp : v.n.toNat - 1 + 1 = v.n.toNat := by have := hl.2; omega
 have hvm : Marks H (R ++ [v]) (v.n.toNat - 1 + 1) := by rw [hp]; exact .root (List.mem_append_right _ (List.mem_singleton_self v)) hl
 refine ⟨by rw [h2.len, List.length_set, h.len], fun i hi => hT i (h.more i hi), fun i hi => ?_, fun u hu hlu => ?_, fun p y hy hn hpx u hu hlu => ?_⟩
 ·rcases h2.true_ i hi with h3 | h3
  ·rcases (isM_set hlt).1 h3 with rfl | h3
   ·exact .inr (.root (List.mem_append_right _ (List.mem_singleton_self v)) hl)
   ·exact (h.true_ i h3).imp_right (Marks.sub fun u hu hlu => .root (List.mem_append_left _ hu) hlu)
  ·exact .inr (Marks.sub (fun u hu hlu => .step hvm hx hu hlu) h3)
 ·rcases List.mem_append.1 hu with hu | hu
  ·exact hT _ (h.roots u hu hlu)
  ·obtain rfl := List.mem_singleton.1 hu
   exact h2.more _ ((isM_set hlt).2 (.inl rfl))
 ·by_cases h3 : isM (T.set v.n.toNat true) (p + 1)
  ·rcases (isM_set hlt).1 h3 with h4 | h4
   ·have : p = v.n.toNat - 1 := by omega
    subst this
    rw [hx] at hpx
    cases hpx
    exact h2.roots u hu hlu
   ·exact hT _ (h.closed p y h4 hn hpx u hu hlu)
  ·exact h2.closed p y hy h3 hpx u hu hlu
theorem marked_is {H : List Th} {R : List Vl} {n : Nat} {T : List Bool} (h : Marked H R (List.replicate n false) T) (i : Nat) : isM T i ↔ Marks H R i := by
 have hno : ∀ i, ¬ isM (List.replicate n false) i := fun i hi => by
  unfold isM at hi
  rw [List.getElem?_replicate] at hi
  split at hi <;> simp at hi
 constructor
 ·intro hi
  exact (h.true_ i hi).resolve_left (hno i)
 ·intro hi
  induction hi with
  | root hv hl => exact h.roots _ hv hl
  | step hm hx hv hl ih => exact h.closed _ _ ih (hno _) hx _ hv hl
def left (S : List Bool) : Nat := (S.filter fun b => !b).length
theorem left_set : ∀ {S : List Bool} {j : Nat}, S[j]? = some false → left (S.set j true) + 1 = left S
 | [], j, h => by simp at h
 | b :: S, 0, h => by
  simp only [List.getElem?_cons_zero, Option.some.injEq] at h
  subst h
  simp [left]
 | b :: S, j + 1, h => by
  have := left_set (S := S) (j := j) (by simpa using h)
  unfold left at this ⊢
  rw [List.set_cons_succ, List.filter_cons, List.filter_cons]
  split
  ·simp only [List.length_cons]; omega
  ·exact this
theorem left_more : ∀ {S T : List Bool}, T.length = S.length → (∀ i, isM S i → isM T i) → left T ≤ left S
 | [], [], _, _ => by simp [left]
 | [], _ :: _, h, _ => by simp at h
 | _ :: _, [], h, _ => by simp at h
 | a :: S, b :: T, h, hm => by
  have ih := left_more (S := S) (T := T) (by simpa using h) (fun i hi => hm (i + 1) hi)
  have h0 : a = true → b = true := fun e => by
   have := hm 0 (by subst e; rfl)
   simpa [isM] using this
  unfold left at ih ⊢
  cases a <;> cases b <;> simp at h0 ⊢ <;> omega
def placesL (S : List Bool) : List Int := ((List.range S.length).filter fun i => S.getD i false).map Int.ofNat
def rankOf (S : List Bool) (i : Nat) : Int := if S.getD i false = true then ((S.take (i + 1)).filter id).length else 0
def movedV (S : List Bool) (v : Vl) : Vl := if v.k = 3 then ⟨3, rankOf S v.n.toNat⟩ else v
end Go.Proofs.YtlhobhnbgdicjaaGreatDoor.worlds
namespace Go.Proofs.YtlhobhnbgdicjaaGreatDoor.worlds
open Go.RowKit lib maps classes descs
def keepB {α : Type} : List Bool → List α → List α
 | b :: bs, x :: xs => if b = true then x :: keepB bs xs else keepB bs xs
 | [], _ => []
 | _ :: _, [] => []
theorem keep_step {α : Type} : ∀ {bs : List Bool} {xs : List α} {k : Nat} (h1 : k < bs.length) (h2 : k < xs.length),
  keepB (bs.take (k + 1)) (xs.take (k + 1)) = keepB (bs.take k) (xs.take k) ++ (if bs[k] = true then [xs[k]] else [])
 | [], _, _, h, _ => by simp at h
 | _ :: _, [], _, _, h => by simp at h
 | b :: bs, x :: xs, 0, _, _ => by simp [keepB]
 | b :: bs, x :: xs, k + 1, h1, h2 => by
  have ih := keep_step (bs := bs) (xs := xs) (k := k) (by simpa using h1) (by simpa using h2)
  simp only [List.take_succ_cons, keepB, List.getElem_cons_succ]
  rw [ih]
  cases b <;> simp
def cnt1 (S : List Bool) : Nat := (S.filter id).length
theorem cnt_step {S : List Bool} {k : Nat} (h : k < S.length) : cnt1 (S.take (k + 1)) = cnt1 (S.take k) + (if S[k] = true then 1 else 0) := by
 unfold cnt1
 rw [List.take_add_one, List.getElem?_eq_getElem h, List.filter_append, List.length_append]
 cases S[k] <;> simp
theorem keep_at {α : Type} : ∀ {bs : List Bool} {xs : List α} {i : Nat}, bs.length = xs.length → bs[i]? = some true → (keepB bs xs)[cnt1 (bs.take i)]? = xs[i]?
 | [], _, _, _, h => by simp at h
 | _ :: _, [], _, h, _ => by simp at h
 | b :: bs, x :: xs, 0, _, h => by
  simp only [List.getElem?_cons_zero, Option.some.injEq] at h
  subst h
  simp [keepB, cnt1]
 | b :: bs, x :: xs, i + 1, hl, h => by
  have ih := keep_at (bs := bs) (xs := xs) (i := i) (by simpa using hl) (by simpa using h)
  unfold cnt1 at ih ⊢
  cases b <;> simp [keepB, ih]
theorem keep_from {α : Type} : ∀ {bs : List Bool} {xs : List α} {j : Nat} {y : α}, (keepB bs xs)[j]? = some y → ∃ i, bs[i]? = some true ∧ xs[i]? = some y ∧ j = cnt1 (bs.take i)
 | [], _, _, _, h => by simp [keepB] at h
 | _ :: _, [], _, _, h => by simp [keepB] at h
 | b :: bs, x :: xs, j, y, h => by
  cases b with
  | false =>
   simp only [keepB, Bool.false_eq_true, if_false] at h
   obtain ⟨i, h1, h2, h3⟩ := keep_from h
   exact ⟨i + 1, by simpa using h1, by simpa using h2, by simpa [cnt1] using h3⟩
  | true =>
   simp only [keepB, if_true] at h
   cases j with
   | zero => exact ⟨0, by simp, by simpa using h, by simp [cnt1]⟩
   | succ j =>
    obtain ⟨i, h1, h2, h3⟩ := keep_from (bs := bs) (xs := xs) (j := j) (by simpa using h)
    exact ⟨i + 1, by simpa using h1, by simpa using h2, by simp [cnt1] at h3 ⊢; exact h3⟩
theorem keep_mem {α : Type} {bs : List Bool} {xs : List α} {y : α} (h : y ∈ keepB bs xs) : ∃ i : Nat, bs[i]? = some true ∧ xs[i]? = some y := by
 obtain ⟨j, hj, e⟩ := List.getElem_of_mem h
 obtain ⟨i, h1, h2, _⟩ := keep_from (bs := bs) (xs := xs) (j := j) (y := y) (by rw [List.getElem?_eq_getElem hj, e])
 exact ⟨i, h1, h2⟩
theorem keep_len {α : Type} : ∀ {bs : List Bool} {xs : List α}, bs.length = xs.length → (keepB bs xs).length = cnt1 bs
 | [], [], _ => rfl
 | [], _ :: _, h => by simp at h
 | _ :: _, [], h => by simp at h
 | b :: bs, x :: xs, h => by
  have ih := keep_len (bs := bs) (xs := xs) (by simpa using h)
  unfold cnt1 at ih ⊢
  cases b <;> simp [keepB, ih]
theorem keep_le {α : Type} : ∀ (bs : List Bool) (xs : List α), (keepB bs xs).length ≤ xs.length
 | [], xs => by simp [keepB]
 | _ :: _, [] => by simp [keepB]
 | b :: bs, x :: xs => by
  have ih := keep_le bs xs
  cases b <;> simp [keepB] <;> omega
def bare (x : Th) : Th := ⟨x.ty, .slice none 0 0, x.has⟩
def bareT (T : List Bool) (x : Th) : Th := ⟨x.ty, .slice none 0 0, x.has.map (movedV T)⟩
def sweptH (T : List Bool) (H : List Th) : List Th := (keepB (T.drop 1) H).map (bareT T)
theorem no_zero {H : List Th} {R : List Vl} {i : Nat} (h : Marks H R i) : 0 < i := by
 cases h with
 | root _ hl => have := hl.2; omega
 | step _ _ _ hl => have := hl.2; omega
structure Done (H : List Th) (R : List Vl) (bs : List Bool) : Prop where
 len : bs.length = H.length
 is : ∀ i, bs[i]? = some true ↔ Marks H R (i + 1)
theorem marked_done {H : List Th} {R : List Vl} {T : List Bool} (h : Marked H R (List.replicate (H.length + 1) false) T) : ∃ bs, T = false :: bs ∧ Done H R bs := by
 have hl := h.len
 rw [List.length_replicate] at hl
 cases T with
 | nil => simp at hl
 | cons b bs =>
  have h0 : b = false := by
   cases b with
   | false => rfl
   | true => exact absurd (no_zero ((marked_is h 0).1 rfl)) (Nat.lt_irrefl _)
  subst h0
  refine ⟨bs, rfl, by simpa using hl, fun i => ?_⟩
  rw [← marked_is h (i + 1)]
  unfold isM
  simp
theorem rank_zero (bs : List Bool) : rankOf (false :: bs) 0 = 0 := by simp [rankOf]
theorem rank_no {bs : List Bool} {i : Nat} (h : ¬ bs[i]? = some true) : rankOf (false :: bs) (i + 1) = 0 := by
 unfold rankOf
 rw [if_neg]
 rw [List.getD_eq_getElem?_getD, List.getElem?_cons_succ]
 cases hb : bs[i]? with
 | none => simp
 | some b => rw [hb] at h; simpa using h
theorem rank_yes {bs : List Bool} {i : Nat} (h : bs[i]? = some true) : rankOf (false :: bs) (i + 1) = (cnt1 (bs.take i) : Int) + 1 := by
 have hi : i < bs.length := (List.getElem?_eq_some_iff.1 h).1
 have he : bs[i] = true := (List.getElem?_eq_some_iff.1 h).2
 have := cnt_step hi
 unfold rankOf
 rw [if_pos (by rw [List.getD_eq_getElem?_getD, List.getElem?_cons_succ, h]; rfl), List.take_succ_cons]
 unfold cnt1 at this ⊢
 rw [he, if_pos rfl] at this
 simp only [List.filter_cons, id, Bool.false_eq_true, if_false]
 rw [this]
 omega
theorem swept_len (bs : List Bool) (H : List Th) : (sweptH (false :: bs) H).length ≤ H.length := by
 unfold sweptH
 rw [List.length_map]
 exact keep_le _ _
theorem swept_mem {H : List Th} {bs : List Bool} {y : Th} (h : y ∈ sweptH (false :: bs) H) : ∃ (i : Nat) (x : Th), bs[i]? = some true ∧ H[i]? = some x ∧ y = bareT (false :: bs) x := by
 obtain ⟨x, hx, rfl⟩ := List.mem_map.1 h
 obtain ⟨i, h1, h2⟩ := keep_mem hx
 exact ⟨i, x, h1, h2, rfl⟩
theorem form_len {W : WL} {x : Th} (h : formF W x = 0) : (typesT W x.ty.data.toList x.has.length).length = x.has.length := by
 unfold formF at h
 split at h
 ·cases h
 split at h
 ·rename_i _ g; exact absurd h g
 split at h
 ·cases h
 split at h
 ·cases h
 ·rename_i g
  exact Classical.byContradiction fun hc => g (.inr hc)
theorem places_step {S : List Bool} {k : Nat} (h : k < S.length) : placesL (S.take (k + 1)) = placesL (S.take k) ++ (if S[k] = true then [(k : Int)] else []) := by
 unfold placesL
 rw [List.length_take, List.length_take, Nat.min_eq_left (by omega), Nat.min_eq_left (by omega), List.range_succ, List.filter_append, List.map_append]
 congr 1
 ·congr 1
  refine List.filter_congr fun i hi => ?_
  have := List.mem_range.1 hi
  rw [List.getD_eq_getElem?_getD, List.getD_eq_getElem?_getD, List.getElem?_take, List.getElem?_take, if_pos (by omega), if_pos (by omega)]
 ·have hg : (S.take (k + 1)).getD k false = S[k] := by
   rw [List.getD_eq_getElem?_getD, List.getElem?_take, if_pos (by omega), List.getElem?_eq_getElem h]
   rfl
  rw [List.filter_cons, hg]
  cases S[k] <;> simp
theorem places_len : ∀ (S : List Bool) (k : Nat), k ≤ S.length → (placesL (S.take k)).length = cnt1 (S.take k)
 | S, 0, _ => by simp [placesL, cnt1]
 | S, k + 1, h => by
  have ih := places_len S k (by omega)
  rw [places_step (by omega), cnt_step (by omega), List.length_append, ih]
  split <;> rfl
theorem cnt_le (S : List Bool) : cnt1 S ≤ S.length := List.length_filter_le _ _
def placeM (S : List Bool) (k : Nat) : List (Int × Value) := (placesL (S.take k)).map fun i => (i, .int .i64 (rankOf S i.toNat))
theorem placeM_len {S : List Bool} {k : Nat} (h : k ≤ S.length) : (placeM S k).length = cnt1 (S.take k) := by
 unfold placeM
 rw [List.length_map, places_len S k h]
theorem mem_places {S : List Bool} {k : Nat} {z : Int} (h : z ∈ placesL (S.take k)) : ∃ i : Nat, z = (i : Int) ∧ i < k ∧ S[i]? = some true := by
 unfold placesL at h
 obtain ⟨i, hi, rfl⟩ := List.mem_map.1 h
 obtain ⟨h1, h2⟩ := List.mem_filter.1 hi
 have h3 := List.mem_range.1 h1
 rw [List.length_take] at h3
 refine ⟨i, rfl, by omega, ?_⟩
 rw [List.getD_eq_getElem?_getD, List.getElem?_take, if_pos (by omega)] at h2
 cases hs : S[i]? with
 | none => rw [hs] at h2; simp at h2
 | some b => rw [hs] at h2; simp at h2; rw [h2]
theorem set_new {l : List (Int × Value)} {k : Int} {v : Value} (h : ∀ p ∈ l, p.1 ≠ k) : setK l k v = l ++ [(k, v)] := by
 induction l with
 | nil => rfl
 | cons x r ih =>
  obtain ⟨j, u⟩ := x
  have h1 : ¬ k = j := fun e => h (j, u) (List.mem_cons_self ..) e.symm
  simp only [setK, if_neg h1, List.cons_append]
  rw [ih fun p hp => h p (List.mem_cons_of_mem _ hp)]
theorem placeM_yes {S : List Bool} {k : Nat} (h : k < S.length) (hb : S[k] = true) : placeM S (k + 1) = setK (placeM S k) (k : Int) (.int .i64 ((cnt1 (S.take k) : Int) + 1)) := by
 have hnew : ∀ p ∈ placeM S k, p.1 ≠ (k : Int) := fun p hp => by
  unfold placeM at hp
  obtain ⟨z, hz, rfl⟩ := List.mem_map.1 hp
  obtain ⟨i, rfl, hi, _⟩ := mem_places hz
  simp only
  omega
 rw [set_new hnew]
 unfold placeM
 rw [places_step h, hb, if_pos rfl, List.map_append]
 congr 1
 have hs := cnt_step h
 rw [hb, if_pos rfl] at hs
 simp only [List.map_cons, List.map_nil, Int.toNat_natCast]
 unfold rankOf
 rw [if_pos (by rw [List.getD_eq_getElem?_getD, List.getElem?_eq_getElem h, hb]; rfl)]
 unfold cnt1 at hs ⊢
 rw [hs]
 simp
theorem placeM_no {S : List Bool} {k : Nat} (h : k < S.length) (hb : ¬ S[k] = true) : placeM S (k + 1) = placeM S k := by
 unfold placeM
 rw [places_step h, if_neg hb, List.append_nil]
theorem get_map {f : Int → Value} : ∀ {l : List Int} {z : Int}, getK (l.map fun i => (i, f i)) z = if z ∈ l then some (f z) else none
 | [], z => by simp [getK]
 | x :: r, z => by
  have ih := get_map (f := f) (l := r) (z := z)
  simp only [List.map_cons, getK, List.mem_cons]
  by_cases h : z = x
  ·subst h; simp
  ·rw [if_neg h, ih]
   simp [h]
theorem placeM_get (S : List Bool) (z : Int) : (getK (placeM S S.length) z).getD (.int .i64 0) = .int .i64 (if z < 0 then 0 else rankOf S z.toNat) := by
 unfold placeM
 rw [get_map]
 by_cases hm : z ∈ placesL (S.take S.length)
 ·rw [if_pos hm]
  obtain ⟨i, rfl, _, _⟩ := mem_places hm
  rw [if_neg (by omega)]
  rfl
 ·rw [if_neg hm]
  simp only [Option.getD_none]
  by_cases hz : z < 0
  ·rw [if_pos hz]
  ·rw [if_neg hz]
   obtain ⟨i, rfl⟩ : ∃ i : Nat, z = (i : Int) := ⟨z.toNat, by omega⟩
   rw [Int.toNat_natCast]
   unfold rankOf
   rw [if_neg]
   intro hb
   apply hm
   unfold placesL
   rw [List.take_length]
   refine List.mem_map.2 ⟨i, List.mem_filter.2 ⟨List.mem_range.2 ?_, hb⟩, rfl⟩
   rw [List.getD_eq_getElem?_getD] at hb
   cases hs : S[i]? with
   | none => rw [hs] at hb; simp at hb
   | some b => exact (List.getElem?_eq_some_iff.1 hs).1
end Go.Proofs.YtlhobhnbgdicjaaGreatDoor.worlds
set_option linter.unusedSimpArgs false
set_option linter.unusedVariables false
namespace Go.Proofs.YtlhobhnbgdicjaaGreatDoor.worlds
open Go.RowKit lib maps classes errs descs names grow ins
def valsK (W : WL) (H : List Th) (L : List ByteArray) (V : List Vl) (k : Nat) : Bool := ((L.zip V).drop k).all fun p => doesV W H p.2 p.1.data.toList
theorem valsK_step {W : WL} {H : List Th} {L : List ByteArray} {V : List Vl} {k : Nat} (h1 : k < L.length) (h2 : k < V.length) : valsK W H L V k = (doesV W H V[k] L[k].data.toList && valsK W H L V (k + 1)) := by
 unfold valsK
 rw [List.drop_eq_getElem_cons (by rw [List.length_zip]; omega), List.all_cons, List.getElem_zip]
theorem valsK_end {W : WL} {H : List Th} {L : List ByteArray} {V : List Vl} {k : Nat} (h : L.length ≤ k) : valsK W H L V k = true := by
 unfold valsK
 rw [List.drop_eq_nil_of_le (by rw [List.length_zip]; omega)]
 rfl
theorem form_ty {W : WL} {x : Th} (h : formF W x = 0) : isTy x.ty.data.toList = true := by
 cases ht : isTy x.ty.data.toList with
 | true => rfl
 | false =>
  unfold formF at h
  rw [if_pos (.inl ht)] at h
  cases h
theorem firstBad_all {T : Type} {f : T → List T → Int} : ∀ {l a : List T}, firstBad f a l = 0 → ∀ x ∈ l, ∃ b, f x b = 0
 | [], _, _, _, h => absurd h (List.not_mem_nil)
 | y :: r, a, h, x, hx => by
  unfold firstBad at h
  by_cases h0 : f y a = 0
  ·rw [if_pos h0] at h
   rcases List.mem_cons.1 hx with rfl | hx
   ·exact ⟨a, h0⟩
   ·exact firstBad_all h x hx
  ·rw [if_neg h0] at h; exact absurd h h0
theorem fld_ty {c : CV} (h : clsFault c = 0) : ∀ f ∈ c.fields, isTy f.ty.data.toList = true := by
 unfold clsFault at h
 by_cases a1 : headBad c = true
 ·rw [if_pos a1] at h; cases h
 rw [if_neg a1] at h
 by_cases a2 : firstBad faceFault [] c.faces ≠ 0
 ·rw [if_pos a2] at h; exact absurd h a2
 rw [if_neg a2] at h
 by_cases a3 : 8 < c.faces.length ∨ 8 < c.fields.length ∨ 8 < c.mets.length
 ·rw [if_pos a3] at h; cases h
 rw [if_neg a3] at h
 by_cases a4 : firstBad fieldFault [] c.fields ≠ 0
 ·rw [if_pos a4] at h; exact absurd h a4
 have a4' := Classical.not_not.1 a4
 intro f hf
 obtain ⟨b, hb⟩ := firstBad_all a4' f hf
 cases ht : isTy f.ty.data.toList with
 | true => rfl
 | false =>
  unfold fieldFault at hb
  rw [ht] at hb
  split at hb <;> simp at hb
theorem good_ty {W : WL} (h : GoodW W) (n : ByteArray) : ∀ f ∈ (cAt W n).fields, isTy f.ty.data.toList = true := by
 unfold cAt
 cases hg : getK W n with
 | none => intro f hf; simp [zeroC] at hf
 | some c =>
  rcases (h.cls n c hg).2 with ⟨_, rfl⟩ | ⟨_, rfl⟩ | hc
  ·intro f hf; simp [objC, zeroC] at hf
  ·intro f hf; simp [fltC, zeroC] at hf
  ·exact fld_ty hc
theorem types_ty {W : WL} (h : GoodW W) {t : List UInt8} {m : Nat} (ht : isTy t = true) : ∀ e ∈ typesT W t m, isTy e.data.toList = true := by
 have hl : ∀ n, ∀ e ∈ layOf W n, isTy e.data.toList = true := fun n e he => by
  unfold layOf slotsOf at he
  obtain ⟨f, hf, rfl⟩ := List.mem_map.1 he
  obtain ⟨c, _, hc⟩ := List.mem_flatMap.1 hf
  exact good_ty h c f hc
 cases t with
 | nil => exact hl _
 | cons x e0 =>
  show ∀ e ∈ (if x = 91 then List.replicate m (bs e0) else layOf W (classN (x :: e0))), isTy e.data.toList = true
  by_cases hx : x = 91
  ·rw [if_pos hx]
   subst hx
   intro e he
   rw [(List.mem_replicate.1 he).2]
   exact ty_tail ht
  ·rw [if_neg hx]; exact hl _
set_option maxRecDepth 100000 in
set_option maxHeartbeats 8000000 in
theorem hright_any (W : WL) (b : Nat) (vt : Value) (H : List Th) (w : World) (hW : Wd w b W) (hH : Ths w vt H) (hs : ∀ x ∈ H, x.ty.size ≤ 1048576 ∧ x.has.length ≤ 1048576) (hn : H.length ≤ 1048576) :
  Calls Tryz.prog 55 #[.map (some b), .agg #[vt]] w fun e w' => e = .returned (errVal (rightF W H)) ∧ Below w.heap.size w w' := by
 obtain ⟨ah, ch, rfl⟩ := hH.sl.val
 have HW := hid hW; have HH := hid hH; have HS := hid hs; have HN := hid hn
 obtain ⟨W1, hW1⟩ : ∃ W1, w.alloc (.cells #[.slice ah H.length ch] 25) = W1 := ⟨_, rfl⟩
 have HB1 : Hid (Below w.heap.size w W1) := hid (hW1 ▸ ext_alloc _ _)
 have hlt1 : w.heap.size < W1.heap.size := by rw [← hW1]; simp
 have hr1 : W1.heap[w.heap.size]? = some (.cells #[.slice ah H.length ch] 25 (0, 0)) := hW1 ▸ heap_alloc_new _ _
 have HX : Hid (∀ u, Below W1.heap.size W1 u → u.cell? ⟨w.heap.size, 0, none⟩ = some (.slice ah H.length ch)) := hid (fun u hu => by
  have h := (hu.block _ hlt1).trans hr1
  rw [cell_of_row _ _ _ _ _ _ h]; rfl)
 have x0 := HX.out _ (Below.refl _ _)
 clear hW hH hs hr1
 by_cases h50 : 50 < H.length
 ·have HZ : Hid (rightF W H = 4) := hid (by unfold rightF; rw [if_pos h50])
  have h51 : (50 : Int) < (H.length : Int) := by omega
  go_enter Tryz.func55, Tryz.ntmps55
  go_wp2
  go_ret
  exact ⟨by rw [HZ.out]; rfl, HB1.out⟩
 have h51 : ¬ (50 : Int) < (H.length : Int) := by omega
 have HR : Hid (rightF W H = if firstF (formF W) H ≠ 0 then firstF (formF W) H else firstF (valsF W H) H) := hid (by unfold rightF; rw [if_neg h50])
 clear h50
 go_enter Tryz.func55, Tryz.ntmps55
 go_wp2
 go_loopw [20] (fun v wr => ∃ k : Nat, k ≤ H.length ∧ v = .int .i64 (k : Int) ∧ Hid (Below W1.heap.size W1 wr) ∧ Hid (firstF (formF W) (H.drop k) = firstF (formF W) H)) (fun v _ => H.length - (intOf v).toNat)
 case atStart => exact ⟨0, Nat.zero_le _, rfl, hid (Below.refl _ _), hid rfl⟩
 case round =>
  obtain ⟨k, hk, rfl, HBv, HFF⟩ := hrel
  obtain ⟨wb, hwb⟩ : ∃ wb, wb = wr := ⟨_, rfl⟩
  subst hwb
  have HBw := hid (HB1.out.trans (HBv.out.mono HB1.out.size))
  have x0 := HX.out _ HBv.out
  by_cases hlt : k < H.length
  ·have hk0 : (0 : Int) ≤ (k : Int) := by omega
   have hk1 : (k : Int) < (H.length : Int) := by omega
   obtain ⟨bb, off, hab, hd0, hd1⟩ := th_at (HH.out.below HBw.out) hlt
   subst hab
   have HVX := hid (HH.out.at_ _ (List.getElem_mem hlt))
   have HSX := hid (HS.out _ (List.getElem_mem hlt))
   have HY := hid (fun h => ff_no (f := formF W) hlt h)
   have HNX := hid (fun h => ff_ok (f := formF W) hlt h)
   generalize H[k] = x at hd0 hd1 HVX HSX HY HNX
   obtain ⟨ty, vh, has⟩ := x
   simp only at hd0 hd1
   obtain ⟨a1, c1, hvh⟩ := HVX.out.val
   simp only at hvh
   subst hvh
   obtain ⟨W3, hW3⟩ : ∃ W3, wb.alloc (.cells #[.string ty, .slice a1 has.length c1] 42) = W3 := ⟨_, rfl⟩
   have HBa : Hid (Below wb.heap.size wb W3) := hid (hW3 ▸ ext_alloc _ _)
   have HB3 := hid (HBw.out.trans (HBa.out.mono HBw.out.size))
   have hr3 : W3.heap[wb.heap.size]? = some (.cells #[.string ty, .slice a1 has.length c1] 42 (0, 0)) := hW3 ▸ heap_alloc_new _ _
   have y0 : W3.cell? ⟨wb.heap.size, 0, none⟩ = some (.string ty) := by rw [cell_of_row _ _ _ _ _ _ hr3]; rfl
   have y1 : W3.cell? ⟨wb.heap.size, 1, none⟩ = some (.slice a1 has.length c1) := by rw [cell_of_row _ _ _ _ _ _ hr3]; rfl
   clear hr3
   go_wp2_with fail
   refine (formed_any W b ⟨ty, .slice a1 has.length c1, has⟩ W3 (HW.out.below HB3.out) (HVX.out.below HB3.out) (by have := HSX.out.1; simp only at this ⊢; omega) (by have := HSX.out.2; simp only at this ⊢; omega)).mono ?_
   rintro e w4 ⟨rfl, hb4⟩
   have HV4 := hid (HBv.out.trans ((HBa.out.trans (hb4.mono HBa.out.size)).mono HBv.out.size))
   have HB4 := hid (HB1.out.trans (HV4.out.mono HB1.out.size))
   clear hb4
   obtain ⟨z, hz⟩ : ∃ z, formF W ⟨ty, .slice a1 has.length c1, has⟩ = z := ⟨_, rfl⟩
   rw [hz] at HY HNX ⊢
   clear hz
   by_cases h0 : z = 0
   ·have HN2 := hid ((HNX.out h0).symm.trans HFF.out)
    rw [show errVal z = .nilIface from by unfold errVal; rw [if_pos h0]]
    clear h0
    go_wp2_with fail
    go_roundw
    case rel => exact ⟨k + 1, by omega, by simp, HV4, HN2⟩
    case measure => simp [intOf]; omega
   ·have HE : Hid (rightF W H = z) := hid (by
     have e : firstF (formF W) H = z := by rw [← HFF.out, HY.out h0]
     rw [HR.out, e, if_pos h0])
    have HEV : Hid (errVal z = .iface 28 (.int .i64 z)) := hid (by unfold errVal; rw [if_neg h0])
    rw [HEV.out]
    clear h0
    go_wp2
    go_ret
    exact ⟨by rw [HE.out, HEV.out]; rfl, HB4.out⟩
  ·obtain rfl : k = H.length := by omega
   have HJ : Hid (firstF (formF W) H = 0) := hid (by rw [← HFF.out, ff_end hlt])
   have HR2 : Hid (rightF W H = firstF (valsF W H) H) := hid (by rw [HR.out, HJ.out, if_neg (by decide)])
   have HTY : Hid (∀ x ∈ H, isTy x.ty.data.toList = true) := hid (fun x hx => form_ty (ff_all.1 HJ.out x hx))
   have HBc := hid HBv.out
   clear hlt HFF HBv
   go_wp2
   go_loopw [34] (fun v wr => ∃ k : Nat, k ≤ H.length ∧ v = .int .i64 (k : Int) ∧ Hid (Below W1.heap.size W1 wr) ∧ Hid (firstF (valsF W H) (H.drop k) = firstF (valsF W H) H)) (fun v _ => H.length - (intOf v).toNat)
   case atStart => exact ⟨0, Nat.zero_le _, rfl, HBc, hid rfl⟩
   case round =>
    clear x0
    obtain ⟨k, hk, rfl, HBv, HFF⟩ := hrel
    obtain ⟨wd, hwd⟩ : ∃ wd, wd = wr := ⟨_, rfl⟩
    subst hwd
    have HBw := hid (HB1.out.trans (HBv.out.mono HB1.out.size))
    have x0 := HX.out _ HBv.out
    by_cases hlt : k < H.length
    ·have hk0 : (0 : Int) ≤ (k : Int) := by omega
     have hk1 : (k : Int) < (H.length : Int) := by omega
     obtain ⟨bb, off, hab, hd0, hd1⟩ := th_at (HH.out.below HBw.out) hlt
     subst hab
     have HVX := hid (HH.out.at_ _ (List.getElem_mem hlt))
     have HSX := hid (HS.out _ (List.getElem_mem hlt))
     have HTX := hid (HTY.out _ (List.getElem_mem hlt))
     have HLX := hid (form_len (ff_all.1 HJ.out _ (List.getElem_mem hlt)))
     have HRX := hid (ff_all.1 HJ.out _ (List.getElem_mem hlt))
     have HY := hid (fun h => ff_no (f := valsF W H) hlt h)
     have HNX := hid (fun h => ff_ok (f := valsF W H) hlt h)
     generalize H[k] = x at hd0 hd1 HVX HSX HY HNX HTX HLX HRX
     obtain ⟨ty, vh, has⟩ := x
     simp only at hd0 hd1
     obtain ⟨a1, c1, hvh⟩ := HVX.out.val
     simp only at hvh
     subst hvh
     obtain ⟨W3, hW3⟩ : ∃ W3, wd.alloc (.cells #[.string ty, .slice a1 has.length c1] 42) = W3 := ⟨_, rfl⟩
     have HBa : Hid (Below wd.heap.size wd W3) := hid (hW3 ▸ ext_alloc _ _)
     have HV3 := hid (HBv.out.trans (HBa.out.mono HBv.out.size))
     have HB3 := hid (HBw.out.trans (HBa.out.mono HBw.out.size))
     have hlt3 : wd.heap.size < W3.heap.size := by rw [← hW3]; simp
     have hr3 : W3.heap[wd.heap.size]? = some (.cells #[.string ty, .slice a1 has.length c1] 42 (0, 0)) := hW3 ▸ heap_alloc_new _ _
     have HX3 : Hid (∀ u, Below W3.heap.size W3 u → u.cell? ⟨wd.heap.size, 0, none⟩ = some (.string ty) ∧ u.cell? ⟨wd.heap.size, 1, none⟩ = some (.slice a1 has.length c1)) := hid (fun u hu => by
      have h := (hu.block _ hlt3).trans hr3
      refine ⟨?_, ?_⟩ <;> (rw [cell_of_row _ _ _ _ _ _ h]; rfl))
     obtain ⟨y0, y1⟩ := HX3.out _ (Below.refl _ _)
     clear hr3
     go_wp2_with fail
     refine (htypes_any W b ⟨ty, .slice a1 has.length c1, has⟩ W3 (HW.out.below HB3.out) (HVX.out.below HB3.out) HTX.out (by have := HSX.out.2; simp only at this ⊢; omega)).mono ?_
     rintro e w4 ⟨v4, rfl, hs4, hb4⟩
     have H34 := hid hb4
     have HV4 := hid (HV3.out.trans (hb4.mono HV3.out.size))
     have HB4 := hid (HB1.out.trans (HV4.out.mono HB1.out.size))
     clear hb4
     simp only at hs4
     have HLX2 : Hid ((typesT W ty.data.toList has.length).length = has.length) := hid HLX.out
     have HTT : Hid (∀ t ∈ typesT W ty.data.toList has.length, isTy t.data.toList = true) := hid (types_ty HW.out.good HTX.out)
     have HVF : Hid (valsF W H ⟨ty, .slice a1 has.length c1, has⟩ = if valsK W H (typesT W ty.data.toList has.length) has 0 = true then 0 else 7) := hid rfl
     obtain ⟨L, hL⟩ : ∃ L, typesT W ty.data.toList has.length = L := ⟨_, rfl⟩
     rw [hL] at hs4 HLX2 HTT HVF
     have HS4 := hid hs4
     obtain ⟨a4, c4, rfl⟩ := hs4.val
     obtain ⟨m, hm⟩ : ∃ m, L.length = m := ⟨_, rfl⟩
     have HM := hid hm
     have HHM : Hid (has.length = m) := hid (by rw [← HLX2.out, hm])
     have hmb : m ≤ 1048576 := by have h1 := HSX.out.2; have h2 := HHM.out; omega
     rw [hm]
     clear hs4 hL hm
     go_wp2
     go_loopw [42] (fun v wr => ∃ j : Nat, j ≤ m ∧ v = .int .i64 (j : Int) ∧ Hid (Below w4.heap.size w4 wr) ∧ Hid (valsK W H L has j = valsK W H L has 0)) (fun v _ => m - (intOf v).toNat)
     case atStart => exact ⟨0, Nat.zero_le _, rfl, hid (Below.refl _ _), hid rfl⟩
     case round =>
      obtain ⟨j, hj, rfl, HBx, HVK⟩ := hrel
      obtain ⟨we, hwe⟩ : ∃ we, we = wr := ⟨_, rfl⟩
      subst hwe
      have HVx := hid (HV4.out.trans (HBx.out.mono HV4.out.size))
      have HBy := hid (HB1.out.trans (HVx.out.mono HB1.out.size))
      have HZx := hid (H34.out.trans (HBx.out.mono H34.out.size))
      by_cases hjl : j < m
      ·have hj0 : (0 : Int) ≤ (j : Int) := by omega
       have hj1 : (j : Int) < (m : Int) := by omega
       have hjL : j < L.length := by rw [HM.out]; exact hjl
       have hjV : j < has.length := by rw [HHM.out]; exact hjl
       have HJL := hid hj0; have HJM := hid hj1
       obtain ⟨bt, ot, hat, hct⟩ := text_at (HS4.out.below HBx.out) hjL
       cases hat
       obtain ⟨bv, ov, hav, hcv0, hcv1⟩ := vl_at (HVX.out.below HBy.out) hjV
       cases hav
       have HVB : Hid (∀ u, Below we.heap.size we u → u.cell? ⟨bv, ov + j * 2, none⟩ = some (.int .i64 has[j].k) ∧ u.cell? ⟨bv, ov + j * 2 + 1, none⟩ = some (.int .i64 has[j].n)) := hid (fun u hu => ⟨(hu.cell (World.block_lt_of_cell? _ _ hcv0)).trans hcv0, (hu.cell (World.block_lt_of_cell? _ _ hcv1)).trans hcv1⟩)
       have HST := hid (valsK_step (W := W) (H := H) hjL hjV)
       have HTJ := hid (HTT.out _ (List.getElem_mem hjL))
       have HHL := hid hjV
       clear hcv0 hcv1
       generalize L[j] = t at hct HST HTJ
       generalize has[j] = v at HVB HST
       obtain ⟨vk, vn⟩ := v
       simp only at HVB
       have HD := hid (fun u hu => hdoes_any W b _ H vk vn t u (HW.out.below (HBy.out.trans (Below.mono hu HBy.out.size))) (HH.out.below (HBy.out.trans (Below.mono hu HBy.out.size))) HTY.out HTJ.out HN.out)
       obtain ⟨r, hr⟩ : ∃ r, doesV W H ⟨vk, vn⟩ t.data.toList = r := ⟨_, rfl⟩
       rw [hr] at HD HST
       clear hr
       have hjh : (j : Int) < (has.length : Int) := by omega
       go_wp2_with fail
       cases r with
       | false =>
        have HE : Hid (firstF (valsF W H) H = 7) := hid (by
         have e : valsK W H L has 0 = false := by rw [← HVK.out, HST.out]; rfl
         have e2 : valsF W H ⟨ty, .slice (some ⟨bv, ov, none⟩) has.length c1, has⟩ = 7 := by rw [HVF.out, e]; rfl
         rw [← HFF.out, HY.out (by rw [e2]; decide), e2])
        refine wp_region_ext [(8, is (.bool false))] ⟨is_stays _, trivial⟩ (by kernel_rfl) (by kernel_rfl) ?_
        refine wpG_calc 1 rfl rfl rfl (fun u => by go_simp; rfl) ?_
        go_frame
        refine wpG_read 2 rfl rfl (.agg #[.slice (some ⟨bb, off, none⟩) H.length ch]) rfl ?_ ?_
        ·intro u hu hh
         have y0 := HX.out u (HVx.out.trans (hu.mono HVx.out.size))
         go_simp
        go_frame
        refine wpG_calc 3 rfl rfl rfl (fun u => by go_simp; rfl) ?_
        go_frame
        refine wpG_read 4 rfl rfl (.slice (some ⟨bv, ov, none⟩) has.length c1) rfl ?_ ?_
        ·intro u hu hh
         obtain ⟨y0, y1⟩ := HX3.out u (HZx.out.trans (hu.mono HZx.out.size))
         go_simp
        go_frame
        refine wpG_calc 5 rfl rfl rfl (fun u => by go_simp; rfl) ?_
        go_frame
        refine wpG_calc 6 rfl rfl rfl (fun u => by go_simp; rfl) ?_
        go_frame
        refine wpG_read 7 rfl rfl (.agg #[.int .i64 vk, .int .i64 vn]) rfl ?_ ?_
        ·intro u hu hh
         obtain ⟨y0, y1⟩ := HVB.out u hu
         go_simp
        go_frame
        refine wpG_calc 8 rfl rfl rfl (fun u => by go_simp; rfl) ?_
        go_frame
        refine wpG_rel 9 rfl rfl rfl ?_ ?_
        ·intro u hu hh
         go_simp
         refine (HD.out u hu).mono ?_
         rintro e w2 ⟨rfl, hb2⟩
         exact ⟨_, rfl, rfl, hb2⟩
        intro vC ⟨uC, _, hrC⟩
        obtain rfl : vC = .bool false := hrC
        go_frame
        refine wpG_calc 10 rfl rfl rfl (fun u => by go_simp; rfl) ?_
        go_frame
        refine wpG_nil fun w' hb' hF => ?_
        clear hF
        have HVf := hid (HVx.out.trans (hb'.mono HVx.out.size))
        have HBf := hid (HBx.out.trans (hb'.mono HBx.out.size))
        have HBg := hid (HB1.out.trans (HVf.out.mono HB1.out.size))
        clear hb'
        go_wp2
        go_ret
        exact ⟨by rw [HR2.out, HE.out]; rfl, HBg.out⟩
       | true =>
        have HVK2 : Hid (valsK W H L has (j + 1) = valsK W H L has 0) := hid (by rw [← HVK.out, HST.out]; rfl)
        refine wp_region_ext [(8, is (.bool true))] ⟨is_stays _, trivial⟩ (by kernel_rfl) (by kernel_rfl) ?_
        refine wpG_calc 1 rfl rfl rfl (fun u => by go_simp; rfl) ?_
        go_frame
        refine wpG_read 2 rfl rfl (.agg #[.slice (some ⟨bb, off, none⟩) H.length ch]) rfl ?_ ?_
        ·intro u hu hh
         have y0 := HX.out u (HVx.out.trans (hu.mono HVx.out.size))
         go_simp
        go_frame
        refine wpG_calc 3 rfl rfl rfl (fun u => by go_simp; rfl) ?_
        go_frame
        refine wpG_read 4 rfl rfl (.slice (some ⟨bv, ov, none⟩) has.length c1) rfl ?_ ?_
        ·intro u hu hh
         obtain ⟨y0, y1⟩ := HX3.out u (HZx.out.trans (hu.mono HZx.out.size))
         go_simp
        go_frame
        refine wpG_calc 5 rfl rfl rfl (fun u => by go_simp; rfl) ?_
        go_frame
        refine wpG_calc 6 rfl rfl rfl (fun u => by go_simp; rfl) ?_
        go_frame
        refine wpG_read 7 rfl rfl (.agg #[.int .i64 vk, .int .i64 vn]) rfl ?_ ?_
        ·intro u hu hh
         obtain ⟨y0, y1⟩ := HVB.out u hu
         go_simp
        go_frame
        refine wpG_calc 8 rfl rfl rfl (fun u => by go_simp; rfl) ?_
        go_frame
        refine wpG_rel 9 rfl rfl rfl ?_ ?_
        ·intro u hu hh
         go_simp
         refine (HD.out u hu).mono ?_
         rintro e w2 ⟨rfl, hb2⟩
         exact ⟨_, rfl, rfl, hb2⟩
        intro vC ⟨uC, _, hrC⟩
        obtain rfl : vC = .bool true := hrC
        go_frame
        refine wpG_calc 10 rfl rfl rfl (fun u => by go_simp; rfl) ?_
        go_frame
        refine wpG_nil fun w' hb' hF => ?_
        clear hF
        have HVf := hid (HVx.out.trans (hb'.mono HVx.out.size))
        have HBf := hid (HBx.out.trans (hb'.mono HBx.out.size))
        have HBg := hid (HB1.out.trans (HVf.out.mono HB1.out.size))
        clear hb'
        go_wp2_with fail
        go_roundw
        case rel => exact ⟨j + 1, by omega, by simp, HBf, HVK2⟩
        case measure => simp [intOf]; omega
      ·obtain rfl : j = m := by omega
       have HE : Hid (valsF W H ⟨ty, .slice a1 has.length c1, has⟩ = 0) := hid (by rw [HVF.out, ← HVK.out, valsK_end (by rw [HM.out]; exact Nat.le_refl _)]; rfl)
       have HN2 := hid ((HNX.out HE.out).symm.trans HFF.out)
       go_wp2_with fail
       go_roundw
       case rel => exact ⟨k + 1, by omega, by simp, HVx, HN2⟩
       case measure => simp [intOf]; omega
    ·obtain rfl : k = H.length := by omega
     have HJ2 : Hid (firstF (valsF W H) H = 0) := hid (by rw [← HFF.out, ff_end hlt])
     clear hlt HFF
     go_wp2
     go_ret
     exact ⟨by rw [HR2.out, HJ2.out]; rfl, HBw.out⟩
end Go.Proofs.YtlhobhnbgdicjaaGreatDoor.worlds
namespace Go.Proofs.YtlhobhnbgdicjaaGreatDoor.worlds
open Go.RowKit lib maps classes errs descs names grow ins
def HReadBy (w : World) (l : List CV) (H : List Th) (e : Ending) (w' : World) : Prop :=
 Below w.heap.size w w' ∧ (if (readW l).1 = 0 then ∃ b, e = .returned (.tuple #[.map (some b), errVal (rightF (readW l).2 H)]) ∧ Wd w' b (readW l).2 else e = .returned (.tuple #[.map none, errVal (readW l).1]))
abbrev SmallH (H : List Th) : Prop := ∀ x ∈ H, x.ty.size ≤ 1048576 ∧ x.has.length ≤ 1048576
set_option maxRecDepth 100000 in
set_option maxHeartbeats 8000000 in
theorem hread_any (va vt : Value) (l : List CV) (H : List Th) (w : World) (hl : Clss w va l) (hf : FormsAt w) (hsm : ∀ c ∈ l, SmallC c) (hn : l.length ≤ 1048576) (hH : Ths w vt H) (hs : SmallH H) (hm : H.length ≤ 1048576) :
  Calls Tryz.prog 43 #[va, .agg #[vt]] w (HReadBy w l H) := by
 obtain ⟨ah, ch, rfl⟩ := hH.sl.val
 obtain ⟨al, cl, rfl⟩ := hl.val
 obtain ⟨W1, hW1⟩ : ∃ W1, w.alloc (.cells #[.slice ah H.length ch] 25) = W1 := ⟨_, rfl⟩
 have HB1 : Hid (Below w.heap.size w W1) := hid (hW1 ▸ ext_alloc _ _)
 have hlt1 : w.heap.size < W1.heap.size := by rw [← hW1]; simp
 have hr1 : W1.heap[w.heap.size]? = some (.cells #[.slice ah H.length ch] 25 (0, 0)) := hW1 ▸ heap_alloc_new _ _
 have HX : Hid (∀ u, Below W1.heap.size W1 u → u.cell? ⟨w.heap.size, 0, none⟩ = some (.slice ah H.length ch)) := hid (fun u hu => by
  have h := (hu.block _ hlt1).trans hr1
  rw [cell_of_row _ _ _ _ _ _ h]; rfl)
 have x0 := HX.out _ (Below.refl _ _)
 have HRD := hid (readwd_any _ l W1 (hl.below HB1.out) (hf.below HB1.out) hsm hn)
 unfold ReadWd at HRD
 have HH := hid hH; have HS := hid hs; have HM := hid hm
 clear hl hf hsm hn hH hs hm hr1
 go_enter Tryz.func43, Tryz.ntmps43
 go_wp2_with fail
 refine HRD.out.mono ?_
 rintro e w2 ⟨hb2, h2⟩
 have H12 := hid hb2
 have HB2 := hid (HB1.out.trans (hb2.mono HB1.out.size))
 have x0 := HX.out _ hb2
 clear hb2
 by_cases h0 : (readW l).1 = 0
 ·rw [if_pos h0] at h2
  obtain ⟨rfl, hw2⟩ := h2
  have HW2 := hid hw2; have H0 := hid h0
  clear hw2 h0
  go_wp2_with fail
  refine (hright_any (readW l).2 _ (.slice ah H.length ch) H w2 HW2.out (HH.out.below HB2.out) HS.out HM.out).mono ?_
  rintro e w3 ⟨rfl, hb3⟩
  have HB3 := hid (HB2.out.trans (hb3.mono HB2.out.size))
  have HW3 := hid (HW2.out.below hb3)
  clear hb3
  obtain ⟨z, hz⟩ : ∃ z, errVal (rightF (readW l).2 H) = z := ⟨_, rfl⟩
  have HZ := hid hz
  rw [hz]
  clear hz
  go_wp2
  go_ret2
  exact ⟨HB3.out, by rw [if_pos H0.out, HZ.out]; exact ⟨_, rfl, HW3.out⟩⟩
 ·rw [if_neg h0] at h2
  subst h2
  have H0 := hid h0
  have HEV : Hid (errVal (readW l).1 = .iface 28 (.int .i64 (readW l).1)) := hid (by unfold errVal; rw [if_neg h0])
  rw [HEV.out]
  clear h0
  go_wp2
  go_ret2
  exact ⟨HB2.out, by rw [if_neg H0.out, HEV.out]; rfl⟩
set_option maxRecDepth 100000 in
set_option maxHeartbeats 8000000 in
theorem hcheck_any (va vt : Value) (l : List CV) (H : List Th) (w : World) (hl : Clss w va l) (hf : FormsAt w) (hsm : ∀ c ∈ l, SmallC c) (hn : l.length ≤ 1048576) (hH : Ths w vt H) (hs : SmallH H) (hm : H.length ≤ 1048576) :
  Calls Tryz.prog 27 #[va, .agg #[vt]] w fun e w' => e = .returned (errVal (heapF l H)) ∧ Below w.heap.size w w' := by
 obtain ⟨ah, ch, rfl⟩ := hH.sl.val
 obtain ⟨al, cl, rfl⟩ := hl.val
 obtain ⟨W1, hW1⟩ : ∃ W1, w.alloc (.cells #[.slice ah H.length ch] 25) = W1 := ⟨_, rfl⟩
 have HB1 : Hid (Below w.heap.size w W1) := hid (hW1 ▸ ext_alloc _ _)
 have hlt1 : w.heap.size < W1.heap.size := by rw [← hW1]; simp
 have hr1 : W1.heap[w.heap.size]? = some (.cells #[.slice ah H.length ch] 25 (0, 0)) := hW1 ▸ heap_alloc_new _ _
 have x0 : W1.cell? ⟨w.heap.size, 0, none⟩ = some (.slice ah H.length ch) := by rw [cell_of_row _ _ _ _ _ _ hr1]; rfl
 have HRD := hid (hread_any _ _ l H W1 (hl.below HB1.out) (hf.below HB1.out) hsm hn (hH.below HB1.out) hs hm)
 unfold HReadBy at HRD
 clear hl hf hsm hn hH hs hm hr1
 go_enter Tryz.func27, Tryz.ntmps27
 go_wp2_with fail
 refine HRD.out.mono ?_
 rintro e w2 ⟨hb2, h2⟩
 have HB2 := hid (HB1.out.trans (hb2.mono HB1.out.size))
 clear hb2
 by_cases h0 : (readW l).1 = 0
 ·rw [if_pos h0] at h2
  obtain ⟨b, rfl, _⟩ := h2
  have HE : Hid (errVal (heapF l H) = errVal (rightF (readW l).2 H)) := hid (by unfold heapF; rw [if_neg (by rw [h0]; decide)])
  clear h0
  generalize errVal (rightF (readW l).2 H) = z at HE
  go_wp2
  go_ret
  exact ⟨by rw [HE.out]; rfl, HB2.out⟩
 ·rw [if_neg h0] at h2
  subst h2
  have HE : Hid (errVal (heapF l H) = errVal (readW l).1) := hid (by unfold heapF; rw [if_pos h0])
  clear h0
  generalize errVal (readW l).1 = z at HE
  go_wp2
  go_ret
  exact ⟨by rw [HE.out]; rfl, HB2.out⟩
theorem heap_types {l : List CV} {H : List Th} (h : heapF l H = 0) : (readW l).1 = 0 ∧ rightF (readW l).2 H = 0 ∧ ∀ x ∈ H, isTy x.ty.data.toList = true := by
 unfold heapF at h
 by_cases h0 : (readW l).1 ≠ 0
 ·rw [if_pos h0] at h; exact absurd h h0
 rw [if_neg h0] at h
 refine ⟨by simpa using h0, h, fun x hx => ?_⟩
 unfold rightF at h
 by_cases h1 : 50 < H.length
 ·rw [if_pos h1] at h; cases h
 rw [if_neg h1] at h
 by_cases h2 : firstF (formF (readW l).2) H ≠ 0
 ·rw [if_pos h2] at h; exact absurd h h2
 exact form_ty (ff_all.1 (by simpa using h2) x hx)
set_option maxRecDepth 100000 in
set_option maxHeartbeats 8000000 in
theorem sread_any (va vt vr : Value) (l : List CV) (H : List Th) (R : List Vl) (w : World) (hl : Clss w va l) (hf : FormsAt w) (hsm : ∀ c ∈ l, SmallC c) (hn : l.length ≤ 1048576) (hH : Ths w vt H) (hs : SmallH H) (hm : H.length ≤ 1048576) (hR : Vls w vr R) :
  Calls Tryz.prog 18 #[va, .agg #[vt], vr] w fun e w' => e = .returned (errVal (rootsF l H R)) ∧ Below w.heap.size w w' := by
 obtain ⟨ah, ch, rfl⟩ := hH.sl.val
 obtain ⟨al, cl, rfl⟩ := hl.val
 obtain ⟨ar, cr, rfl⟩ := hR.val
 obtain ⟨W1, hW1⟩ : ∃ W1, w.alloc (.cells #[.slice ah H.length ch] 25) = W1 := ⟨_, rfl⟩
 have HB1 : Hid (Below w.heap.size w W1) := hid (hW1 ▸ ext_alloc _ _)
 have hlt1 : w.heap.size < W1.heap.size := by rw [← hW1]; simp
 have hr1 : W1.heap[w.heap.size]? = some (.cells #[.slice ah H.length ch] 25 (0, 0)) := hW1 ▸ heap_alloc_new _ _
 have HXb : Hid (∀ u, Below W1.heap.size W1 u → u.cell? ⟨w.heap.size, 0, none⟩ = some (.slice ah H.length ch)) := hid (fun u hu => by
  have h := (hu.block _ hlt1).trans hr1
  rw [cell_of_row _ _ _ _ _ _ h]; rfl)
 have x0 := HXb.out _ (Below.refl _ _)
 have HCK := hid (hcheck_any _ _ l H W1 (hl.below HB1.out) (hf.below HB1.out) hsm hn (hH.below HB1.out) hs hm)
 have HRD := hid (fun (u : World) (hu : Below W1.heap.size W1 u) => readwd_any (.slice al l.length cl) l u (hl.below (HB1.out.trans (hu.mono HB1.out.size))) (hf.below (HB1.out.trans (hu.mono HB1.out.size))) hsm hn)
 unfold ReadWd at HRD
 have HH := hid hH; have HM := hid hm; have HR := hid hR
 clear hl hf hsm hn hH hs hm hr1 hR
 go_enter Tryz.func18, Tryz.ntmps18
 go_wp2_with fail
 refine HCK.out.mono ?_
 rintro e w2 ⟨rfl, hb2⟩
 have H12 := hid hb2
 have HB2 := hid (HB1.out.trans (hb2.mono HB1.out.size))
 clear hb2 x0
 by_cases h0 : heapF l H = 0
 ·obtain ⟨hr0, hrt, hty⟩ := heap_types h0
  have HTY := hid hty
  have HRZ0 : Hid (rootsF l H R = if 50 < R.length then 4 else firstF (rootF (readW l).2 H) R) := hid (by unfold rootsF; rw [if_neg (by rw [h0]; decide)])
  rw [h0, show errVal 0 = .nilIface from rfl]
  have HR0 := hid hr0
  clear hty hrt h0
  go_wp2_with fail
  refine (HRD.out w2 H12.out).mono ?_
  rintro e w3 ⟨hb3, h3⟩
  rw [if_pos hr0] at h3
  obtain ⟨rfl, hw3⟩ := h3
  have H13 := hid (H12.out.trans (hb3.mono H12.out.size))
  have HB3 := hid (HB2.out.trans (hb3.mono HB2.out.size))
  have HW3 := hid hw3
  clear hw3 hb3 hr0
  generalize w2.heap.size = b at HW3
  generalize (readW l).2 = W at HRZ0 HW3
  by_cases h50 : 50 < R.length
  ·have HZ : Hid (rootsF l H R = 4) := hid (by rw [HRZ0.out, if_pos h50])
   have h51 : (50 : Int) < (R.length : Int) := by omega
   go_wp2
   go_ret
   exact ⟨by rw [HZ.out]; rfl, HB3.out⟩
  have h51 : ¬ (50 : Int) < (R.length : Int) := by omega
  have HRZ : Hid (rootsF l H R = firstF (rootF W H) R) := hid (by rw [HRZ0.out, if_neg h50])
  clear h50 HRZ0
  obtain ⟨W6, hW6⟩ : ∃ W6, W6 = w3 := ⟨_, rfl⟩
  subst hW6
  have HB6 := hid HB3.out
  have HX : Hid (∀ u, Below W6.heap.size W6 u → u.cell? ⟨w.heap.size, 0, none⟩ = some (.slice ah H.length ch)) := hid (fun u hu => HXb.out u (H13.out.trans (hu.mono H13.out.size)))
  go_wp2_with fail
  go_loopw [32] (fun v wr => ∃ k : Nat, k ≤ R.length ∧ v = .int .i64 (k : Int) ∧ Hid (Below W6.heap.size W6 wr) ∧ Hid (firstF (rootF W H) (R.drop k) = firstF (rootF W H) R)) (fun v _ => R.length - (intOf v).toNat)
  case atStart => exact ⟨0, Nat.zero_le _, rfl, hid (Below.refl _ _), hid rfl⟩
  case round =>
   obtain ⟨k, hk, rfl, HBv, HFF⟩ := hrel
   obtain ⟨wb, hwb⟩ : ∃ wb, wb = wr := ⟨_, rfl⟩
   subst hwb
   have HBw := hid (HB6.out.trans (HBv.out.mono HB6.out.size))
   by_cases hlt : k < R.length
   ·have hk0 : (0 : Int) ≤ (k : Int) := by omega
    have hk1 : (k : Int) < (R.length : Int) := by omega
    obtain ⟨bb, off, hab, hd0, hd1⟩ := vl_at (HR.out.below HBw.out) hlt
    cases hab
    have HY := hid (fun h => ff_no (f := rootF W H) hlt h)
    have HNX := hid (fun h => ff_ok (f := rootF W H) hlt h)
    generalize R[k] = x at hd0 hd1 HY HNX
    obtain ⟨vk, vn⟩ := x
    simp only at hd0 hd1
    obtain ⟨W3, hW3⟩ : ∃ W3, wb.alloc (.cells #[.int .i64 vk, .int .i64 vn] 49) = W3 := ⟨_, rfl⟩
    have HBa : Hid (Below wb.heap.size wb W3) := hid (hW3 ▸ ext_alloc _ _)
    have HVx := hid (HBv.out.trans (HBa.out.mono HBv.out.size))
    have HB3x := hid (HBw.out.trans (HBa.out.mono HBw.out.size))
    have hlt3 : wb.heap.size < W3.heap.size := by rw [← hW3]; simp
    have hr3 : W3.heap[wb.heap.size]? = some (.cells #[.int .i64 vk, .int .i64 vn] 49 (0, 0)) := hW3 ▸ heap_alloc_new _ _
    have HVB : Hid (∀ u, Below W3.heap.size W3 u → u.cell? ⟨wb.heap.size, 0, none⟩ = some (.int .i64 vk) ∧ u.cell? ⟨wb.heap.size, 1, none⟩ = some (.int .i64 vn)) := hid (fun u hu => by
     have h := (hu.block _ hlt3).trans hr3
     refine ⟨?_, ?_⟩ <;> (rw [cell_of_row _ _ _ _ _ _ h]; rfl))
    clear hr3
    have HDoes : Hid (∀ (t : ByteArray), isTy t.data.toList = true → ∀ u, Below W3.heap.size W3 u → Calls Tryz.prog 29 #[.map (some b), .agg #[.slice ah H.length ch], .agg #[.int .i64 vk, .int .i64 vn], .string t] u fun e w' => e = .returned (.bool (doesV W H ⟨vk, vn⟩ t.data.toList)) ∧ Below u.heap.size u w') :=
     hid (fun t ht u hu => hdoes_any W b _ H vk vn t u (HW3.out.below ((HVx.out.trans (hu.mono HVx.out.size)))) (HH.out.below (HB3x.out.trans (hu.mono HB3x.out.size))) HTY.out ht HM.out)
    have HDI := hid (fun u hu => HDoes.out { data := #[73] } (by decide +kernel) u hu)
    have HDJ := hid (fun u hu => HDoes.out { data := #[74] } (by decide +kernel) u hu)
    obtain ⟨OB, hOB⟩ : ∃ OB, bs (thingB objB) = OB := ⟨_, rfl⟩
    have HOB : Hid (Value.string (bs (thingB objB)) = .string OB) := hid (by rw [hOB])
    have HDO := hid (fun u hu => HDoes.out OB (by rw [← hOB]; decide +kernel) u hu)
    have hOBt : OB.data.toList = objT := by rw [← hOB]; decide +kernel
    rw [hOBt] at HDO
    have HDI : Hid (∀ u, Below W3.heap.size W3 u → Calls Tryz.prog 29 #[.map (some b), .agg #[.slice ah H.length ch], .agg #[.int .i64 vk, .int .i64 vn], .string { data := #[73] }] u fun e w' => e = .returned (.bool (doesV W H ⟨vk, vn⟩ [73])) ∧ Below u.heap.size u w') := HDI
    have HDJ : Hid (∀ u, Below W3.heap.size W3 u → Calls Tryz.prog 29 #[.map (some b), .agg #[.slice ah H.length ch], .agg #[.int .i64 vk, .int .i64 vn], .string { data := #[74] }] u fun e w' => e = .returned (.bool (doesV W H ⟨vk, vn⟩ [74])) ∧ Below u.heap.size u w') := HDJ
    clear HDoes hOB hOBt
    go_wp2_with fail
    cases ha : doesV W H ⟨vk, vn⟩ [73] with
    | true =>
     rw [ha] at HDI
     have HOK : Hid (rootF W H ⟨vk, vn⟩ = 0) := hid (by unfold rootF rootOk; rw [ha]; simp)
     have HN2 := hid ((HNX.out HOK.out).symm.trans HFF.out)
     refine wp_region_ext [(3, is (.bool true))] ⟨is_stays _, trivial⟩ (by kernel_rfl) (by kernel_rfl) ?_
     refine wpG_calc 1 rfl rfl rfl (fun u => by go_simp; rfl) ?_
     go_frame
     refine wpG_read 2 rfl rfl (.agg #[.slice ah H.length ch]) rfl ?_ ?_
     ·intro u hu hh
      have y0 := HX.out u (HVx.out.trans (hu.mono HVx.out.size))
      go_simp
     go_frame
     refine wpG_read 3 rfl rfl (.agg #[.int .i64 vk, .int .i64 vn]) rfl ?_ ?_
     ·intro u hu hh
      obtain ⟨y0, y1⟩ := HVB.out u hu
      go_simp
     go_frame
     refine wpG_rel 4 rfl rfl rfl ?_ ?_
     ·intro u hu hh
      go_simp
      refine (HDI.out u hu).mono ?_
      rintro e w2 ⟨rfl, hb2⟩
      exact ⟨_, rfl, rfl, hb2⟩
     intro vA ⟨uA, _, hrA⟩
     obtain rfl : vA = .bool true := hrA
     go_frame
     refine wpG_calc 5 rfl rfl rfl (fun u => by go_simp; rfl) ?_
     go_frame
     refine wpG_calc 6 rfl rfl rfl (fun u => by go_simp; rfl) ?_
     go_frame
     refine wpG_skip 7 rfl rfl ?_
     go_frame
     refine wpG_skip 8 rfl rfl ?_
     go_frame
     refine wpG_skip 9 rfl rfl ?_
     go_frame
     refine wpG_skip 10 rfl rfl ?_
     go_frame
     refine wpG_skip 11 rfl rfl ?_
     go_frame
     refine wpG_calc (v := .bool false) 12 rfl rfl rfl (fun u => by first | (go_simp; done) | (go_simp; rfl)) ?_
     go_frame
     refine wpG_calc 13 rfl rfl rfl (fun u => by go_simp; rfl) ?_
     go_frame
     refine wpG_skip 14 rfl rfl ?_
     go_frame
     refine wpG_skip 15 rfl rfl ?_
     go_frame
     refine wpG_skip 16 rfl rfl ?_
     go_frame
     refine wpG_skip 17 rfl rfl ?_
     go_frame
     refine wpG_skip 18 rfl rfl ?_
     go_frame
     refine wpG_skip 19 rfl rfl ?_
     go_frame
     refine wpG_calc (v := .bool false) 20 rfl rfl rfl (fun u => by first | (go_simp; done) | (go_simp; rfl)) ?_
     go_frame
     refine wpG_nil fun w' hb' hF => ?_
     clear hF
     have HVf := hid (HVx.out.trans (hb'.mono HVx.out.size))
     have HBg := hid (HB6.out.trans (HVf.out.mono HB6.out.size))
     clear hb'
     go_wp2_with fail
     go_roundw
     case rel => exact ⟨k + 1, by omega, by simp, HVf, HN2⟩
     case measure => simp [intOf]; omega
    | false =>
     rw [ha] at HDI
     cases hb : doesV W H ⟨vk, vn⟩ [74] with
     | true =>
      rw [hb] at HDJ
      have HOK : Hid (rootF W H ⟨vk, vn⟩ = 0) := hid (by unfold rootF rootOk; rw [ha, hb]; simp)
      have HN2 := hid ((HNX.out HOK.out).symm.trans HFF.out)
      refine wp_region_ext [(3, is (.bool false)), (9, is (.bool true))] ⟨is_stays _, is_stays _, trivial⟩ (by kernel_rfl) (by kernel_rfl) ?_
      refine wpG_calc 1 rfl rfl rfl (fun u => by go_simp; rfl) ?_
      go_frame
      refine wpG_read 2 rfl rfl (.agg #[.slice ah H.length ch]) rfl ?_ ?_
      ·intro u hu hh
       have y0 := HX.out u (HVx.out.trans (hu.mono HVx.out.size))
       go_simp
      go_frame
      refine wpG_read 3 rfl rfl (.agg #[.int .i64 vk, .int .i64 vn]) rfl ?_ ?_
      ·intro u hu hh
       obtain ⟨y0, y1⟩ := HVB.out u hu
       go_simp
      go_frame
      refine wpG_rel 4 rfl rfl rfl ?_ ?_
      ·intro u hu hh
       go_simp
       refine (HDI.out u hu).mono ?_
       rintro e w2 ⟨rfl, hb2⟩
       exact ⟨_, rfl, rfl, hb2⟩
      intro vA ⟨uA, _, hrA⟩
      obtain rfl : vA = .bool false := hrA
      go_frame
      refine wpG_calc 5 rfl rfl rfl (fun u => by go_simp; rfl) ?_
      go_frame
      refine wpG_calc 6 rfl rfl rfl (fun u => by go_simp; rfl) ?_
      go_frame
      refine wpG_calc 7 rfl rfl rfl (fun u => by go_simp; rfl) ?_
      go_frame
      refine wpG_read 8 rfl rfl (.agg #[.slice ah H.length ch]) rfl ?_ ?_
      ·intro u hu hh
       have y0 := HX.out u (HVx.out.trans (hu.mono HVx.out.size))
       go_simp
      go_frame
      refine wpG_read 9 rfl rfl (.agg #[.int .i64 vk, .int .i64 vn]) rfl ?_ ?_
      ·intro u hu hh
       obtain ⟨y0, y1⟩ := HVB.out u hu
       go_simp
      go_frame
      refine wpG_rel 10 rfl rfl rfl ?_ ?_
      ·intro u hu hh
       go_simp
       refine (HDJ.out u hu).mono ?_
       rintro e w2 ⟨rfl, hb2⟩
       exact ⟨_, rfl, rfl, hb2⟩
      intro vB ⟨uB, _, hrB⟩
      obtain rfl : vB = .bool true := hrB
      go_frame
      refine wpG_calc 11 rfl rfl rfl (fun u => by go_simp; rfl) ?_
      go_frame
      refine wpG_calc (v := .bool false) 12 rfl rfl rfl (fun u => by first | (go_simp; done) | (go_simp; rfl)) ?_
      go_frame
      refine wpG_calc 13 rfl rfl rfl (fun u => by go_simp; rfl) ?_
      go_frame
      refine wpG_skip 14 rfl rfl ?_
      go_frame
      refine wpG_skip 15 rfl rfl ?_
      go_frame
      refine wpG_skip 16 rfl rfl ?_
      go_frame
      refine wpG_skip 17 rfl rfl ?_
      go_frame
      refine wpG_skip 18 rfl rfl ?_
      go_frame
      refine wpG_skip 19 rfl rfl ?_
      go_frame
      refine wpG_calc (v := .bool false) 20 rfl rfl rfl (fun u => by first | (go_simp; done) | (go_simp; rfl)) ?_
      go_frame
      refine wpG_nil fun w' hb' hF => ?_
      clear hF
      have HVf := hid (HVx.out.trans (hb'.mono HVx.out.size))
      have HBg := hid (HB6.out.trans (HVf.out.mono HB6.out.size))
      clear hb'
      go_wp2_with fail
      go_roundw
      case rel => exact ⟨k + 1, by omega, by simp, HVf, HN2⟩
      case measure => simp [intOf]; omega
     | false =>
      rw [hb] at HDJ
      cases hc : doesV W H ⟨vk, vn⟩ objT with
      | true =>
       rw [hc] at HDO
       have HOK : Hid (rootF W H ⟨vk, vn⟩ = 0) := hid (by unfold rootF rootOk; rw [ha, hb, hc]; simp)
       have HN2 := hid ((HNX.out HOK.out).symm.trans HFF.out)
       refine wp_region_ext [(3, is (.bool false)), (9, is (.bool false)), (16, is (.string OB)), (17, is (.bool true))] ⟨is_stays _, is_stays _, is_stays _, is_stays _, trivial⟩ (by kernel_rfl) (by kernel_rfl) ?_
       refine wpG_calc 1 rfl rfl rfl (fun u => by go_simp; rfl) ?_
       go_frame
       refine wpG_read 2 rfl rfl (.agg #[.slice ah H.length ch]) rfl ?_ ?_
       ·intro u hu hh
        have y0 := HX.out u (HVx.out.trans (hu.mono HVx.out.size))
        go_simp
       go_frame
       refine wpG_read 3 rfl rfl (.agg #[.int .i64 vk, .int .i64 vn]) rfl ?_ ?_
       ·intro u hu hh
        obtain ⟨y0, y1⟩ := HVB.out u hu
        go_simp
       go_frame
       refine wpG_rel 4 rfl rfl rfl ?_ ?_
       ·intro u hu hh
        go_simp
        refine (HDI.out u hu).mono ?_
        rintro e w2 ⟨rfl, hb2⟩
        exact ⟨_, rfl, rfl, hb2⟩
       intro vA ⟨uA, _, hrA⟩
       obtain rfl : vA = .bool false := hrA
       go_frame
       refine wpG_calc 5 rfl rfl rfl (fun u => by go_simp; rfl) ?_
       go_frame
       refine wpG_calc 6 rfl rfl rfl (fun u => by go_simp; rfl) ?_
       go_frame
       refine wpG_calc 7 rfl rfl rfl (fun u => by go_simp; rfl) ?_
       go_frame
       refine wpG_read 8 rfl rfl (.agg #[.slice ah H.length ch]) rfl ?_ ?_
       ·intro u hu hh
        have y0 := HX.out u (HVx.out.trans (hu.mono HVx.out.size))
        go_simp
       go_frame
       refine wpG_read 9 rfl rfl (.agg #[.int .i64 vk, .int .i64 vn]) rfl ?_ ?_
       ·intro u hu hh
        obtain ⟨y0, y1⟩ := HVB.out u hu
        go_simp
       go_frame
       refine wpG_rel 10 rfl rfl rfl ?_ ?_
       ·intro u hu hh
        go_simp
        refine (HDJ.out u hu).mono ?_
        rintro e w2 ⟨rfl, hb2⟩
        exact ⟨_, rfl, rfl, hb2⟩
       intro vB ⟨uB, _, hrB⟩
       obtain rfl : vB = .bool false := hrB
       go_frame
       refine wpG_calc 11 rfl rfl rfl (fun u => by go_simp; rfl) ?_
       go_frame
       refine wpG_calc (v := .bool true) 12 rfl rfl rfl (fun u => by first | (go_simp; done) | (go_simp; rfl)) ?_
       go_frame
       refine wpG_calc 13 rfl rfl rfl (fun u => by go_simp; rfl) ?_
       go_frame
       refine wpG_calc 14 rfl rfl rfl (fun u => by go_simp; rfl) ?_
       go_frame
       refine wpG_read 15 rfl rfl (.agg #[.slice ah H.length ch]) rfl ?_ ?_
       ·intro u hu hh
        have y0 := HX.out u (HVx.out.trans (hu.mono HVx.out.size))
        go_simp
       go_frame
       refine wpG_read 16 rfl rfl (.agg #[.int .i64 vk, .int .i64 vn]) rfl ?_ ?_
       ·intro u hu hh
        obtain ⟨y0, y1⟩ := HVB.out u hu
        go_simp
       go_frame
       refine wpG_rel 17 rfl rfl rfl ?_ ?_
       ·intro u hu hh
        go_simp
        refine (thing_any objB u (by decide)).mono ?_
        rintro e w2 ⟨rfl, rfl⟩
        exact ⟨_, rfl, HOB.out, Below.refl _ _⟩
       intro vT ⟨uT, _, hrT⟩
       obtain rfl : vT = .string OB := hrT
       go_frame
       refine wpG_rel 18 rfl rfl rfl ?_ ?_
       ·intro u hu hh
        go_simp
        refine (HDO.out u hu).mono ?_
        rintro e w2 ⟨rfl, hb2⟩
        exact ⟨_, rfl, rfl, hb2⟩
       intro vC ⟨uC, _, hrC⟩
       obtain rfl : vC = .bool true := hrC
       go_frame
       refine wpG_calc 19 rfl rfl rfl (fun u => by go_simp; rfl) ?_
       go_frame
       refine wpG_calc (v := .bool false) 20 rfl rfl rfl (fun u => by first | (go_simp; done) | (go_simp; rfl)) ?_
       go_frame
       refine wpG_nil fun w' hb' hF => ?_
       clear hF
       have HVf := hid (HVx.out.trans (hb'.mono HVx.out.size))
       have HBg := hid (HB6.out.trans (HVf.out.mono HB6.out.size))
       clear hb'
       go_wp2_with fail
       go_roundw
       case rel => exact ⟨k + 1, by omega, by simp, HVf, HN2⟩
       case measure => simp [intOf]; omega
      | false =>
       rw [hc] at HDO
       have HZ : Hid (firstF (rootF W H) R = 7) := hid (by
        have e : rootF W H ⟨vk, vn⟩ = 7 := by unfold rootF rootOk; rw [ha, hb, hc]; rfl
        rw [← HFF.out, HY.out (by rw [e]; decide), e])
       clear ha hb hc
       refine wp_region_ext [(3, is (.bool false)), (9, is (.bool false)), (16, is (.string OB)), (17, is (.bool false))] ⟨is_stays _, is_stays _, is_stays _, is_stays _, trivial⟩ (by kernel_rfl) (by kernel_rfl) ?_
       refine wpG_calc 1 rfl rfl rfl (fun u => by go_simp; rfl) ?_
       go_frame
       refine wpG_read 2 rfl rfl (.agg #[.slice ah H.length ch]) rfl ?_ ?_
       ·intro u hu hh
        have y0 := HX.out u (HVx.out.trans (hu.mono HVx.out.size))
        go_simp
       go_frame
       refine wpG_read 3 rfl rfl (.agg #[.int .i64 vk, .int .i64 vn]) rfl ?_ ?_
       ·intro u hu hh
        obtain ⟨y0, y1⟩ := HVB.out u hu
        go_simp
       go_frame
       refine wpG_rel 4 rfl rfl rfl ?_ ?_
       ·intro u hu hh
        go_simp
        refine (HDI.out u hu).mono ?_
        rintro e w2 ⟨rfl, hb2⟩
        exact ⟨_, rfl, rfl, hb2⟩
       intro vA ⟨uA, _, hrA⟩
       obtain rfl : vA = .bool false := hrA
       go_frame
       refine wpG_calc 5 rfl rfl rfl (fun u => by go_simp; rfl) ?_
       go_frame
       refine wpG_calc 6 rfl rfl rfl (fun u => by go_simp; rfl) ?_
       go_frame
       refine wpG_calc 7 rfl rfl rfl (fun u => by go_simp; rfl) ?_
       go_frame
       refine wpG_read 8 rfl rfl (.agg #[.slice ah H.length ch]) rfl ?_ ?_
       ·intro u hu hh
        have y0 := HX.out u (HVx.out.trans (hu.mono HVx.out.size))
        go_simp
       go_frame
       refine wpG_read 9 rfl rfl (.agg #[.int .i64 vk, .int .i64 vn]) rfl ?_ ?_
       ·intro u hu hh
        obtain ⟨y0, y1⟩ := HVB.out u hu
        go_simp
       go_frame
       refine wpG_rel 10 rfl rfl rfl ?_ ?_
       ·intro u hu hh
        go_simp
        refine (HDJ.out u hu).mono ?_
        rintro e w2 ⟨rfl, hb2⟩
        exact ⟨_, rfl, rfl, hb2⟩
       intro vB ⟨uB, _, hrB⟩
       obtain rfl : vB = .bool false := hrB
       go_frame
       refine wpG_calc 11 rfl rfl rfl (fun u => by go_simp; rfl) ?_
       go_frame
       refine wpG_calc (v := .bool true) 12 rfl rfl rfl (fun u => by first | (go_simp; done) | (go_simp; rfl)) ?_
       go_frame
       refine wpG_calc 13 rfl rfl rfl (fun u => by go_simp; rfl) ?_
       go_frame
       refine wpG_calc 14 rfl rfl rfl (fun u => by go_simp; rfl) ?_
       go_frame
       refine wpG_read 15 rfl rfl (.agg #[.slice ah H.length ch]) rfl ?_ ?_
       ·intro u hu hh
        have y0 := HX.out u (HVx.out.trans (hu.mono HVx.out.size))
        go_simp
       go_frame
       refine wpG_read 16 rfl rfl (.agg #[.int .i64 vk, .int .i64 vn]) rfl ?_ ?_
       ·intro u hu hh
        obtain ⟨y0, y1⟩ := HVB.out u hu
        go_simp
       go_frame
       refine wpG_rel 17 rfl rfl rfl ?_ ?_
       ·intro u hu hh
        go_simp
        refine (thing_any objB u (by decide)).mono ?_
        rintro e w2 ⟨rfl, rfl⟩
        exact ⟨_, rfl, HOB.out, Below.refl _ _⟩
       intro vT ⟨uT, _, hrT⟩
       obtain rfl : vT = .string OB := hrT
       go_frame
       refine wpG_rel 18 rfl rfl rfl ?_ ?_
       ·intro u hu hh
        go_simp
        refine (HDO.out u hu).mono ?_
        rintro e w2 ⟨rfl, hb2⟩
        exact ⟨_, rfl, rfl, hb2⟩
       intro vC ⟨uC, _, hrC⟩
       obtain rfl : vC = .bool false := hrC
       go_frame
       refine wpG_calc 19 rfl rfl rfl (fun u => by go_simp; rfl) ?_
       go_frame
       refine wpG_calc (v := .bool true) 20 rfl rfl rfl (fun u => by first | (go_simp; done) | (go_simp; rfl)) ?_
       go_frame
       refine wpG_nil fun w' hb' hF => ?_
       clear hF
       have HVf := hid (HVx.out.trans (hb'.mono HVx.out.size))
       have HBg := hid (HB6.out.trans (HVf.out.mono HB6.out.size))
       clear hb'
       go_wp2
       go_ret
       exact ⟨by rw [HRZ.out, HZ.out]; rfl, HBg.out⟩
   ·obtain rfl : k = R.length := by omega
    have HZ : Hid (rootsF l H R = 0) := hid (by rw [HRZ.out, ← HFF.out, ff_end hlt])
    clear hlt HFF
    go_wp2
    go_ret
    exact ⟨by rw [HZ.out]; rfl, HBw.out⟩
 ·have HZ : Hid (rootsF l H R = heapF l H) := hid (by unfold rootsF; rw [if_pos h0])
  have HEV : Hid (errVal (heapF l H) = .iface 28 (.int .i64 (heapF l H))) := hid (by unfold errVal; rw [if_neg h0])
  rw [HEV.out]
  clear h0
  go_wp2
  go_ret
  exact ⟨by rw [HZ.out, HEV.out]; rfl, HB2.out⟩
end Go.Proofs.YtlhobhnbgdicjaaGreatDoor.worlds
namespace Go.Proofs.YtlhobhnbgdicjaaGreatDoor.worlds
open Go.RowKit lib errs grow
theorem vpart_int (w : World) (cs : Array Value) (off : Nat) (v : Value) (h : cs[off]? = some v) : (part 3 cs off).run Tryz.prog w = .ok v w := by
 simp [part, h, Result.andThen]
theorem val_fields : Tryz.prog.underlying 49 = some (.struct (Tryz.prog.fieldsOf 49)) := by kernel_rfl
theorem val_stood : Tryz.prog.stoodInHeld 49 = false := by kernel_rfl
theorem val_guard : Tryz.prog.eqGuardType Tryz.prog.depth 49 = false := by kernel_rfl
theorem val_len : (Tryz.prog.fieldsOf 49).toList.length = 2 := by kernel_rfl
theorem val_names : (Tryz.prog.fieldsOf 49).toList.map (fun f => (f.type, f.offset, decide (f.name ≠ "_"))) = [(3, 0, true), (3, 1, true)] := by kernel_rfl
theorem eq_val (d : Nat) (k n : Int) (w : World) : (Op.equalIn (d + 2) 49 (.agg #[.int .i64 k, .int .i64 n]) (.agg #[.int .i64 k, .int .i64 n])).run Tryz.prog w = .ok true w := by
 rw [run_equalIn_agg w _ _ _ _ val_fields val_stood]
 have hn := val_names
 have hl := val_len
 generalize (Tryz.prog.fieldsOf 49).toList = fs at hn hl
 match fs, hl with
 | [f0, f1], _ =>
  simp only [List.map_cons, List.map_nil, List.cons.injEq, Prod.mk.injEq, decide_eq_true_eq, and_true] at hn
  obtain ⟨⟨t0, o0, n0⟩, t1, o1, n1⟩ := hn
  have ui := Tryz.underlying3
  simp only [Op.eqFields, n0, n1, t0, t1, o0, o1, ne_eq, not_false_eq_true, if_true, Sem.run_bind]
  have p0 := vpart_int w #[.int .i64 k, .int .i64 n] 0 (.int .i64 k) rfl
  have p1 := vpart_int w #[.int .i64 k, .int .i64 n] 1 (.int .i64 n) rfl
  have e0 := run_equalIn_int w d _ .i64 _ k k ui
  have e1 := run_equalIn_int w d _ .i64 _ n n ui
  simp [p0, p1, e0, e1, Result.andThen]
theorem neq_val (k n : Int) (w : World) : (binOp .neq 49 (.agg #[.int .i64 k, .int .i64 n]) (.agg #[.int .i64 k, .int .i64 n])).run Tryz.prog w = .ok (.bool false) w := by
 rw [run_neq_struct, eq_val 9998]; rfl
set_option maxRecDepth 100000 in
set_option maxHeartbeats 2000000 in
theorem svals_same (va vb : Value) (l : List Vl) (w : World) (ha : Vls w va l) (hb : Vls w vb l) (hn : l.length ≤ 1000000000000) :
  Calls Tryz.prog 14 #[va, vb] w fun e w' => e = .returned (.bool true) ∧ Below w.heap.size w w' := by
 obtain ⟨a, c, rfl⟩ := ha.val
 obtain ⟨b, d, rfl⟩ := hb.val
 have HA := hid ha; have HB := hid hb
 have hg := val_guard
 clear ha hb
 go_enter Tryz.func14, Tryz.ntmps14
 go_wp2_with fail
 go_loopw [5] (fun i wr => ∃ k : Nat, k ≤ l.length ∧ i = .int .i64 k ∧ Hid (Below w.heap.size w wr)) (fun i _ => l.length - (intOf i).toNat)
 case atStart => exact ⟨0, Nat.zero_le _, rfl, hid (Below.refl _ _)⟩
 case round =>
  obtain ⟨k, hk, rfl, HR⟩ := hrel
  by_cases hlt : k < l.length
  ·obtain ⟨b1, o1, h1, hc0, hc1⟩ := vl_at (HA.out.below HR.out) hlt
   obtain ⟨b2, o2, h2, hd0, hd1⟩ := vl_at (HB.out.below HR.out) hlt
   subst h1
   subst h2
   have hi : (0 : Int) ≤ (k : Int) := by omega
   have hkl : (k : Int) < (l.length : Int) := by omega
   generalize l[k] = x at hc0 hc1 hd0 hd1
   obtain ⟨xk, xn⟩ := x
   have hq := neq_val xk xn
   go_wp2_with fail
   go_quiet (fail)
   go_wp2
   go_roundw
   case rel => exact ⟨k + 1, by omega, by go_num, hid (below_drewN HR.out _)⟩
   case measure => simp [intOf]; omega
  ·go_wp2
   go_ret
   exact ⟨rfl, HR.out⟩
theorem bare_at {H1 H2 : List Th} (h : H1.map bare = H2.map bare) {k : Nat} (h1 : k < H1.length) (h2 : k < H2.length) : H2[k].ty = H1[k].ty ∧ H2[k].has = H1[k].has := by
 have e : (H1.map bare)[k]? = (H2.map bare)[k]? := by rw [h]
 rw [List.getElem?_map, List.getElem?_map, List.getElem?_eq_getElem h1, List.getElem?_eq_getElem h2] at e
 simp only [Option.map_some, Option.some.injEq, bare, Th.mk.injEq, true_and] at e
 exact ⟨e.1.symm, e.2.symm⟩
set_option maxRecDepth 100000 in
set_option maxHeartbeats 8000000 in
theorem sheap_same (va vb : Value) (H1 H2 : List Th) (w : World) (ha : Ths w va H1) (hb : Ths w vb H2) (he : H1.map bare = H2.map bare) (hs : ∀ x ∈ H1, x.has.length ≤ 2000000) (hn : H1.length ≤ 2000000) :
  Calls Tryz.prog 13 #[.agg #[va], .agg #[vb]] w fun e w' => e = .returned (.bool true) ∧ Below w.heap.size w w' := by
 obtain ⟨aa, ca, rfl⟩ := ha.sl.val
 obtain ⟨ab, cb, rfl⟩ := hb.sl.val
 have HLE : Hid (H1.length = H2.length) := hid (by have := congrArg List.length he; rwa [List.length_map, List.length_map] at this)
 have HA := hid ha; have HB := hid hb; have HE := hid he; have HS := hid hs
 obtain ⟨b1, hb1⟩ : ∃ b1, w.heap.size = b1 := ⟨_, rfl⟩
 obtain ⟨W2, hW2⟩ : ∃ W2, (w.alloc (.cells #[.slice aa H1.length ca] 25)).alloc (.cells #[.slice ab H2.length cb] 25) = W2 := ⟨_, rfl⟩
 have HW2 : Hid (Below w.heap.size w W2) := hid (hW2 ▸ (ext_alloc _ _).trans ((ext_alloc _ _).mono (ext_alloc _ _).size))
 have hrb : W2.heap[b1 + 1]? = some (.cells #[.slice ab H2.length cb] 25 (0, 0)) := by
  rw [← hW2, ← hb1, ← World.size_alloc w (.cells #[.slice aa H1.length ca] 25)]; exact heap_alloc_new _ _
 have hra : W2.heap[b1]? = some (.cells #[.slice aa H1.length ca] 25 (0, 0)) := by
  rw [← hW2, ← hb1]
  exact ((ext_alloc _ _).block _ (by rw [World.size_alloc]; omega)).trans (heap_alloc_new _ _)
 have HX : Hid (∀ u, Below W2.heap.size W2 u → u.cell? ⟨b1, 0, none⟩ = some (.slice aa H1.length ca) ∧ u.cell? ⟨b1 + 1, 0, none⟩ = some (.slice ab H2.length cb)) := hid (fun u hu => by
  have h1 := (hu.block _ (Array.getElem?_eq_some_iff.1 hra).1).trans hra
  have h2 := (hu.block _ (Array.getElem?_eq_some_iff.1 hrb).1).trans hrb
  exact ⟨by rw [cell_of_row _ _ _ _ _ _ h1]; rfl, by rw [cell_of_row _ _ _ _ _ _ h2]; rfl⟩)
 obtain ⟨x0, x1⟩ := HX.out _ (Below.refl _ _)
 have hle : (H1.length : Int) = (H2.length : Int) := by have := HLE.out; omega
 clear ha hb he hs hra hrb
 go_enter Tryz.func13, Tryz.ntmps13
 go_wp2_with fail
 clear hle x0 x1
 go_loopw [5] (fun i wr => ∃ k : Nat, k ≤ H1.length ∧ i = .int .i64 (k : Int) ∧ Hid (Below W2.heap.size W2 wr)) (fun i _ => H1.length - (intOf i).toNat)
 case atStart => exact ⟨0, Nat.zero_le _, rfl, hid (Below.refl _ _)⟩
 case round =>
  obtain ⟨k, hk, rfl, HR⟩ := hrel
  obtain ⟨wb, hwb⟩ : ∃ wb, wb = wr := ⟨_, rfl⟩
  subst hwb
  obtain ⟨x0, x1⟩ := HX.out _ HR.out
  have hk0 : (0 : Int) ≤ (k : Int) := by omega
  by_cases hlt : k < H1.length
  ·have hlt2 : k < H2.length := by have := HLE.out; omega
   have hk1 : (k : Int) < (H1.length : Int) := by omega
   have hk2 : (k : Int) < (H2.length : Int) := by omega
   have HBw := hid (HW2.out.trans (HR.out.mono HW2.out.size))
   obtain ⟨ba, oa, hab, he0, he1⟩ := th_at (HA.out.below HBw.out) hlt
   obtain ⟨bb, ob, hbb, hf0, hf1⟩ := th_at (HB.out.below HBw.out) hlt2
   obtain ⟨hty, hhas⟩ := bare_at HE.out hlt hlt2
   have HVA := hid (HA.out.at_ _ (List.getElem_mem hlt))
   have HVB := hid (HB.out.at_ _ (List.getElem_mem hlt2))
   have HSX := hid (HS.out _ (List.getElem_mem hlt))
   rw [hty] at hf0
   rw [hhas] at HVB
   subst hab hbb
   generalize H1[k] = x at he0 he1 hf0 HVA HVB HSX
   generalize H2[k] = y at hf1 HVB
   obtain ⟨ty, vh, has⟩ := x
   obtain ⟨ty2, vh2, has2⟩ := y
   simp only at he0 he1 hf0 hf1 HVA HVB HSX
   obtain ⟨ax, cx, hvx⟩ := HVA.out.val
   obtain ⟨ay, cy, hvy⟩ := HVB.out.val
   subst hvx hvy
   have HRD : Hid (∀ u, Below wb.heap.size wb u → u.cell? ⟨b1, 0, none⟩ = some (.slice (some ⟨ba, oa, none⟩) H1.length ca) ∧ u.cell? ⟨b1 + 1, 0, none⟩ = some (.slice (some ⟨bb, ob, none⟩) H2.length cb) ∧ u.cell? ⟨ba, oa + k * 2, none⟩ = some (.string ty) ∧ u.cell? ⟨ba, oa + k * 2 + 1, none⟩ = some (.slice ax has.length cx) ∧ u.cell? ⟨bb, ob + k * 2, none⟩ = some (.string ty) ∧ u.cell? ⟨bb, ob + k * 2 + 1, none⟩ = some (.slice ay has.length cy)) := hid (fun u hu => by
    obtain ⟨z0, z1⟩ := HX.out u (HR.out.trans (hu.mono HR.out.size))
    exact ⟨z0, z1, (hu.cell (World.block_lt_of_cell? _ _ he0)).trans he0, (hu.cell (World.block_lt_of_cell? _ _ he1)).trans he1, (hu.cell (World.block_lt_of_cell? _ _ hf0)).trans hf0, (hu.cell (World.block_lt_of_cell? _ _ hf1)).trans hf1⟩)
   have HBd : Hid (Below wb.heap.size wb wb) := hid (Below.refl _ _)
   clear he0 he1 hf0 hf1 x1 hty hhas
   go_wp2_with fail
   refine wp_region_ext [(26, is (.bool true))] ⟨is_stays _, trivial⟩ (by kernel_rfl) (by kernel_rfl) ?_
   refine wpG_calc 1 rfl rfl rfl (fun u => by go_simp; rfl) ?_
   go_frame
   refine wpG_read 2 rfl rfl (.slice (some ⟨ba, oa, none⟩) H1.length ca) rfl ?_ ?_
   ·intro u hu hh
    obtain ⟨y0, y1, y2, y3, y4, y5⟩ := HRD.out u (Below.trans HBd.out (hu.mono HBd.out.size))
    go_simp
   go_frame
   refine wpG_calc 3 rfl rfl rfl (fun u => by go_simp; rfl) ?_
   go_frame
   refine wpG_calc 4 rfl rfl rfl (fun u => by go_simp; rfl) ?_
   go_frame
   refine wpG_calc 5 rfl rfl rfl (fun u => by go_simp; rfl) ?_
   go_frame
   refine wpG_read 6 rfl rfl (.string ty) rfl ?_ ?_
   ·intro u hu hh
    obtain ⟨y0, y1, y2, y3, y4, y5⟩ := HRD.out u (Below.trans HBd.out (hu.mono HBd.out.size))
    go_simp
   go_frame
   refine wpG_calc 7 rfl rfl rfl (fun u => by go_simp; rfl) ?_
   go_frame
   refine wpG_read 8 rfl rfl (.slice (some ⟨bb, ob, none⟩) H2.length cb) rfl ?_ ?_
   ·intro u hu hh
    obtain ⟨y0, y1, y2, y3, y4, y5⟩ := HRD.out u (Below.trans HBd.out (hu.mono HBd.out.size))
    go_simp
   go_frame
   refine wpG_calc 9 rfl rfl rfl (fun u => by go_simp; rfl) ?_
   go_frame
   refine wpG_calc 10 rfl rfl rfl (fun u => by go_simp; rfl) ?_
   go_frame
   refine wpG_calc 11 rfl rfl rfl (fun u => by go_simp; rfl) ?_
   go_frame
   refine wpG_read 12 rfl rfl (.string ty) rfl ?_ ?_
   ·intro u hu hh
    obtain ⟨y0, y1, y2, y3, y4, y5⟩ := HRD.out u (Below.trans HBd.out (hu.mono HBd.out.size))
    go_simp
   go_frame
   refine wpG_calc (v := .bool false) 13 rfl rfl rfl (fun u => by first | (go_simp; done) | (go_simp; simp; done) | (go_simp; rfl)) ?_
   go_frame
   refine wpG_calc 14 rfl rfl rfl (fun u => by go_simp; rfl) ?_
   go_frame
   refine wpG_calc 15 rfl rfl rfl (fun u => by go_simp; rfl) ?_
   go_frame
   refine wpG_read 16 rfl rfl (.slice (some ⟨ba, oa, none⟩) H1.length ca) rfl ?_ ?_
   ·intro u hu hh
    obtain ⟨y0, y1, y2, y3, y4, y5⟩ := HRD.out u (Below.trans HBd.out (hu.mono HBd.out.size))
    go_simp
   go_frame
   refine wpG_calc 17 rfl rfl rfl (fun u => by go_simp; rfl) ?_
   go_frame
   refine wpG_calc 18 rfl rfl rfl (fun u => by go_simp; rfl) ?_
   go_frame
   refine wpG_calc 19 rfl rfl rfl (fun u => by go_simp; rfl) ?_
   go_frame
   refine wpG_read 20 rfl rfl (.slice ax has.length cx) rfl ?_ ?_
   ·intro u hu hh
    obtain ⟨y0, y1, y2, y3, y4, y5⟩ := HRD.out u (Below.trans HBd.out (hu.mono HBd.out.size))
    go_simp
   go_frame
   refine wpG_calc 21 rfl rfl rfl (fun u => by go_simp; rfl) ?_
   go_frame
   refine wpG_read 22 rfl rfl (.slice (some ⟨bb, ob, none⟩) H2.length cb) rfl ?_ ?_
   ·intro u hu hh
    obtain ⟨y0, y1, y2, y3, y4, y5⟩ := HRD.out u (Below.trans HBd.out (hu.mono HBd.out.size))
    go_simp
   go_frame
   refine wpG_calc 23 rfl rfl rfl (fun u => by go_simp; rfl) ?_
   go_frame
   refine wpG_calc 24 rfl rfl rfl (fun u => by go_simp; rfl) ?_
   go_frame
   refine wpG_calc 25 rfl rfl rfl (fun u => by go_simp; rfl) ?_
   go_frame
   refine wpG_read 26 rfl rfl (.slice ay has.length cy) rfl ?_ ?_
   ·intro u hu hh
    obtain ⟨y0, y1, y2, y3, y4, y5⟩ := HRD.out u (Below.trans HBd.out (hu.mono HBd.out.size))
    go_simp
   go_frame
   refine wpG_rel 27 rfl rfl rfl ?_ ?_
   ·intro u hu hh
    go_simp
    refine (svals_same _ _ has u (HVA.out.below (Below.trans HBw.out ((Below.trans HBd.out (hu.mono HBd.out.size)).mono HBw.out.size))) (HVB.out.below (Below.trans HBw.out ((Below.trans HBd.out (hu.mono HBd.out.size)).mono HBw.out.size))) (by have := HSX.out; omega)).mono ?_
    rintro e w2 ⟨rfl, hb2⟩
    exact ⟨_, rfl, rfl, hb2⟩
   intro vC ⟨uC, _, hrC⟩
   obtain rfl : vC = .bool true := hrC
   go_frame
   refine wpG_calc 28 rfl rfl rfl (fun u => by go_simp; rfl) ?_
   go_frame
   refine wpG_calc (v := .bool false) 29 rfl rfl rfl (fun u => by first | (go_simp; done) | (go_simp; rfl)) ?_
   go_frame
   refine wpG_nil fun w' hb' hF => ?_
   clear hF
   have HRN := hid (HR.out.trans (hb'.mono HR.out.size))
   clear hb'
   go_wp2_with fail
   go_roundw
   case rel => exact ⟨k + 1, by omega, by simp, HRN⟩
   case measure => simp [intOf]; omega
  ·obtain rfl : k = H1.length := by omega
   have HBf := hid (HW2.out.trans (HR.out.mono HW2.out.size))
   go_wp2
   go_ret
   exact ⟨rfl, HBf.out⟩
end Go.Proofs.YtlhobhnbgdicjaaGreatDoor.worlds
namespace Go.Proofs.YtlhobhnbgdicjaaGreatDoor.worlds
open Go.RowKit lib
theorem own_apart {w0 w : World} {e1 e2 : TypeId} {s1 s2 : Nat} {v1 v2 : Value} {n1 n2 : Nat} {xs1 xs2 : List Value} (h1 : Out w0 w e1 s1 v1 n1 xs1) (h2 : Out w0 w e2 s2 v2 n2 xs2) (hne : e1 ≠ e2) : Apart v1 v2 := by
 intro k hk1 hk2
 rcases h1.own.2 with ⟨rfl, _⟩ | ⟨g1, c1, cur1, rfl, _, hg1, _⟩
 ·cases hk1
 rcases h2.own.2 with ⟨rfl, _⟩ | ⟨g2, c2, cur2, rfl, _, hg2, _⟩
 ·cases hk2
 simp only [Value.ownBlock, Option.some.injEq] at hk1 hk2
 subst hk1 hk2
 rw [hg1] at hg2
 simp only [Option.some.injEq, Obj.cells.injEq] at hg2
 exact hne hg2.2.1
theorem out_put_other {w0 w : World} {e eH : TypeId} {s : Nat} {v : Value} {n : Nat} {xs : List Value} {b j : Nat} {c : Array Value} {x : Value} (h : Out w0 w e s v n xs) (hb : w.heap[b]? = some (.cells c eH (0, 0))) (hne : e ≠ eH) (hle : w0.heap.size ≤ b) : Out w0 (w.setCell ⟨b, j, none⟩ x) e s v n xs := by
 refine ⟨h.own.kept (grown_set w ⟨b, j, none⟩ x) ?_, h.below.setCell hle x⟩
 cases hv : v.ownBlock with
 | none => exact .inl rfl
 | some k =>
  refine .inr fun he => ?_
  rcases h.own.2 with ⟨rfl, _⟩ | ⟨g, cap, cur, rfl, _, hg, _⟩
  ·cases hv
  ·simp only [Value.ownBlock, Option.some.injEq] at hv he
   subst hv
   subst he
   rw [hg] at hb
   simp only [Option.some.injEq, Obj.cells.injEq] at hb
   exact hne hb.2.1
theorem row_grown {w0 w w' : World} {e eH : TypeId} {s : Nat} {v : Value} {n : Nat} {xs : List Value} {b : Nat} {c : Array Value} (h : Out w0 w e s v n xs) (hb : w.heap[b]? = some (.cells c eH (0, 0))) (hne : e ≠ eH) (hg : w.grownBy w' v.ownBlock) : w'.heap[b]? = some (.cells c eH (0, 0)) := by
 rw [hg.block b (Array.getElem?_eq_some_iff.1 hb).1 ?_]
 ·exact hb
 ·intro he
  rcases h.own.2 with ⟨rfl, _⟩ | ⟨g, cap, cur, rfl, _, hg, _⟩
  ·cases he
  ·simp only [Value.ownBlock, Option.some.injEq] at he
   subst he
   rw [hg] at hb
   simp only [Option.some.injEq, Obj.cells.injEq] at hb
   exact hne hb.2.1
structure OwnTh (w1 w : World) (v : Value) (L : List Th) : Prop where
 own : Out w1 w 42 2 v L.length (L.flatMap Th.cells)
 at_ : ∀ x ∈ L, Out w1 w 49 2 x.vh x.has.length (x.has.flatMap Vl.cells)
theorem OwnTh.ths {w1 w : World} {v : Value} {L : List Th} (h : OwnTh w1 w v L) : Ths w v L := ⟨h.own.sl, fun x hx => (h.at_ x hx).sl⟩
theorem OwnTh.later {w1 w w' : World} {v : Value} {L : List Th} (h : OwnTh w1 w v L) (hb : Below w.heap.size w w') : OwnTh w1 w' v L := ⟨h.own.later hb, fun x hx => (h.at_ x hx).later hb⟩
theorem OwnTh.nil (w : World) : OwnTh w w (.slice none 0 0) [] := ⟨Out.nil _ _ _, fun _ h => absurd h List.not_mem_nil⟩
theorem OwnTh.since {w0 w1 w : World} {v : Value} {L : List Th} (hb : Below w0.heap.size w0 w1) (h : OwnTh w1 w v L) : OwnTh w0 w v L := ⟨Out.since hb h.own, fun x hx => Out.since hb (h.at_ x hx)⟩
theorem thing_value : (42 : TypeId) ≠ 49 := by decide
theorem thing_heap : (42 : TypeId) ≠ 25 := by decide
theorem value_heap : (49 : TypeId) ≠ 25 := by decide
theorem OwnTh.snoc {w1 W w' : World} {v v' : Value} {L : List Th} {x : Th} (h : OwnTh w1 W v L) (hx : Out w1 W 49 2 x.vh x.has.length (x.has.flatMap Vl.cells))
  (ho : Out w1 w' 42 2 v' (L.length + 1) (L.flatMap Th.cells ++ [.string x.ty, x.vh])) (hg : W.grownBy w' v.ownBlock) : OwnTh w1 w' v' (L ++ [x]) := by
 refine ⟨?_, fun y hy => ?_⟩
 ·rw [List.length_append, List.flatMap_append]
  exact ho
 ·rcases List.mem_append.1 hy with hy | hy
  ·exact Out.beside h.own (h.at_ y hy) (own_apart h.own (h.at_ y hy) thing_value) hg
  ·obtain rfl := List.mem_singleton.1 hy
   exact Out.beside h.own hx (own_apart h.own hx thing_value) hg
theorem OwnTh.put {w1 w : World} {v : Value} {L : List Th} {b : Nat} {c : Array Value} {x : Value} (h : OwnTh w1 w v L) (hb : w.heap[b]? = some (.cells c 25 (0, 0))) (hle : w1.heap.size ≤ b) : OwnTh w1 (w.setCell ⟨b, 0, none⟩ x) v L :=
 ⟨out_put_other h.own hb thing_heap hle, fun y hy => out_put_other (h.at_ y hy) hb value_heap hle⟩
structure TW (w1 w : World) (b2 b3 : Nat) (v : Value) (L : List Th) : Prop where
 own : OwnTh w1 w v L
 r3 : w.heap[b3]? = some (.cells #[v] 25 (0, 0))
 r2 : w.heap[b2]? = some (.cells #[.slice none 0 0] 25 (0, 0))
 le2 : w1.heap.size ≤ b2
 le3 : w1.heap.size ≤ b3
 ne : b2 ≠ b3
theorem TW.later {w1 w w' : World} {b2 b3 : Nat} {v : Value} {L : List Th} (h : TW w1 w b2 b3 v L) (hb : Below w.heap.size w w') : TW w1 w' b2 b3 v L :=
 ⟨h.own.later hb, (hb.block _ (Array.getElem?_eq_some_iff.1 h.r3).1).trans h.r3, (hb.block _ (Array.getElem?_eq_some_iff.1 h.r2).1).trans h.r2, h.le2, h.le3, h.ne⟩
theorem setCell_row {w : World} {b j : Nat} {c : Array Value} {e : TypeId} {x : Value} (h : w.heap[b]? = some (.cells c e (0, 0))) : (w.setCell ⟨b, j, none⟩ x).heap[b]? = some (.cells (c.setIfInBounds j x) e (0, 0)) := by
 simp [World.setCell, Array.getElem?_modify, h]
theorem setCell_other {w : World} {b j k : Nat} {x : Value} (h : k ≠ b) : (w.setCell ⟨b, j, none⟩ x).heap[k]? = w.heap[k]? := by
 simp only [World.setCell, Array.getElem?_modify]
 rw [if_neg (fun e => h e.symm)]
theorem TW.step {w1 W w' : World} {b2 b3 : Nat} {v v' : Value} {L : List Th} {x : Th} (h : TW w1 W b2 b3 v L) (hx : Out w1 W 49 2 x.vh x.has.length (x.has.flatMap Vl.cells))
  (ho : Out w1 w' 42 2 v' (L.length + 1) (L.flatMap Th.cells ++ [.string x.ty, x.vh])) (hg : W.grownBy w' v.ownBlock) :
  w'.cell? ⟨b3, 0, none⟩ = some v ∧ w'.frozen? ⟨b3, 0, none⟩ = false ∧ TW w1 (w'.setCell ⟨b3, 0, none⟩ v') b2 b3 v' (L ++ [x]) := by
 have h3 := row_grown h.own.own h.r3 thing_heap hg
 have h2 := row_grown h.own.own h.r2 thing_heap hg
 have hn := h.own.snoc hx ho hg
 refine ⟨by rw [cell_of_row _ _ _ _ _ _ h3]; rfl, frozen_of_row _ _ _ _ _ h3, hn.put h3 h.le3, ?_, ?_, h.le2, h.le3, h.ne⟩
 ·exact setCell_row h3
 ·rw [setCell_other h.ne]; exact h2
theorem infoTh : (Tryz.prog.info? 42).map (fun i => (i.zero, i.size, i.bytes)) = some (some (.agg #[.string { data := #[] }, .slice none 0 0]), 2, 40) := by kernel_rfl
theorem infoVl : (Tryz.prog.info? 49).map (fun i => (i.zero, i.size, i.bytes)) = some (some (.agg #[.int .i64 0, .int .i64 0]), 2, 16) := by kernel_rfl
end Go.Proofs.YtlhobhnbgdicjaaGreatDoor.worlds
namespace Go.Proofs.YtlhobhnbgdicjaaGreatDoor.worlds
open Go.RowKit lib maps classes errs descs names grow ins
structure MS (w0 w : World) (g bs bm bh n : Nat) (ah : Option Addr) (ch : Nat) (H : List Th) (T : List Bool) : Prop where
 below : Below w0.heap.size w0 w
 row : w.heap[g]? = some (.cells (T.map Value.bool).toArray 4 (0, 0))
 cs : w.heap[bs]? = some (.cells #[.slice (some ⟨g, 0, none⟩) n n] 39 (0, 0))
 cm : w.heap[bm]? = some (.cells #[.func (.func 31) #[] #[.pointer (some ⟨bs, 0, none⟩), .pointer (some ⟨bm, 0, none⟩), .pointer (some ⟨bh, 0, none⟩)]] 69 (0, 0))
 chp : w.heap[bh]? = some (.cells #[.slice ah H.length ch] 25 (0, 0))
 len : T.length = n
 num : n = H.length + 1
 ge : w0.heap.size ≤ g
 ne : g ≠ bs ∧ g ≠ bm ∧ g ≠ bh
theorem MS.later {w0 w w' : World} {g bs bm bh n : Nat} {ah : Option Addr} {ch : Nat} {H : List Th} {T : List Bool} (h : MS w0 w g bs bm bh n ah ch H T) (hb : Below w.heap.size w w') : MS w0 w' g bs bm bh n ah ch H T :=
 ⟨h.below.trans (hb.mono h.below.size), (hb.block _ (Array.getElem?_eq_some_iff.1 h.row).1).trans h.row, (hb.block _ (Array.getElem?_eq_some_iff.1 h.cs).1).trans h.cs, (hb.block _ (Array.getElem?_eq_some_iff.1 h.cm).1).trans h.cm,
  (hb.block _ (Array.getElem?_eq_some_iff.1 h.chp).1).trans h.chp, h.len, h.num, h.ge, h.ne⟩
theorem map_set_bool (T : List Bool) (j : Nat) : ((T.map Value.bool).toArray.setIfInBounds j (.bool true)) = ((T.set j true).map Value.bool).toArray := by
 apply Array.ext'
 simp [List.map_set]
theorem MS.put {w0 w : World} {g bs bm bh n : Nat} {ah : Option Addr} {ch : Nat} {H : List Th} {T : List Bool} (h : MS w0 w g bs bm bh n ah ch H T) (j : Nat) : MS w0 (w.setCell ⟨g, j, none⟩ (.bool true)) g bs bm bh n ah ch H (T.set j true) := by
 have hk : ∀ k, k ≠ g → (w.setCell ⟨g, j, none⟩ (.bool true)).heap[k]? = w.heap[k]? := fun k hk => by
  simp only [World.setCell, Array.getElem?_modify]
  rw [if_neg (fun e => hk e.symm)]
 refine ⟨h.below.setCell h.ge _, ?_, (hk _ (Ne.symm h.ne.1)).trans h.cs, (hk _ (Ne.symm h.ne.2.1)).trans h.cm, (hk _ (Ne.symm h.ne.2.2)).trans h.chp, by rw [List.length_set]; exact h.len, h.num, h.ge, h.ne⟩
 rw [← map_set_bool]
 simp [World.setCell, Array.getElem?_modify, h.row]
theorem MS.at_ {w0 w : World} {g bs bm bh n : Nat} {ah : Option Addr} {ch : Nat} {H : List Th} {T : List Bool} (h : MS w0 w g bs bm bh n ah ch H T) {j : Nat} (hj : j < T.length) : w.cell? ⟨g, j, none⟩ = some (.bool T[j]) ∧ w.frozen? ⟨g, j, none⟩ = false := by
 refine ⟨?_, frozen_of_row _ _ _ _ _ h.row⟩
 rw [cell_of_row _ _ _ _ _ _ h.row]
 simp [hj]
theorem points_at {H : List Th} {v : Vl} (h : Points H v) (hk : v.k = 3) (h0 : 0 < v.n) : ∃ p : Nat, v.n = (p : Int) + 1 ∧ p < H.length := by
 have := h hk
 exact ⟨(v.n - 1).toNat, by omega, by omega⟩
theorem take_snoc {R : List Vl} {k : Nat} (h : k < R.length) : R.take (k + 1) = R.take k ++ [R[k]] := List.take_succ_eq_append_getElem h
set_option maxRecDepth 100000 in
set_option maxHeartbeats 8000000 in
theorem mark_any {w0 : World} {g bs bm bh n : Nat} {ah : Option Addr} {ch : Nat} {H : List Th} (hH : Ths w0 (.slice ah H.length ch) H) (hp : ∀ x ∈ H, ∀ v ∈ x.has, Points H v) (hl : ∀ x ∈ H, x.has.length ≤ 2000000) (hn50 : H.length ≤ 50) :
  ∀ (N : Nat) (va : Value) (R : List Vl) (S : List Bool) (w : World), left S < N → Vls w0 va R → (∀ v ∈ R, Points H v) → R.length ≤ 2000000 → MS w0 w g bs bm bh n ah ch H S →
  Calls Tryz.prog 31 #[va, .pointer (some ⟨bs, 0, none⟩), .pointer (some ⟨bm, 0, none⟩), .pointer (some ⟨bh, 0, none⟩)] w fun e w' => e = .returned (.tuple #[]) ∧ ∃ T, Marked H R S T ∧ MS w0 w' g bs bm bh n ah ch H T := by
 intro N
 induction N with
 | zero => intro _ _ _ _ h; exact absurd h (Nat.not_lt_zero _)
 | succ N ih =>
  intro va R S w hN hR hRp hRl hM
  obtain ⟨ar, cr, rfl⟩ := hR.val
  have HR := hid hR; have HM := hid hM; have HN := hid hN; have HRP := hid hRp; have IH := hid ih; have HH := hid hH; have HP := hid hp; have HLL := hid hl
  clear hR hM hN hRp ih
  go_enter Tryz.func31, Tryz.ntmps31
  go_wp2
  go_loopw [9] (fun v wr => ∃ (k : Nat) (T : List Bool), k ≤ R.length ∧ v = .int .i64 (k : Int) ∧ Hid (Marked H (R.take k) S T) ∧ Hid (MS w0 wr g bs bm bh n ah ch H T)) (fun v _ => R.length - (intOf v).toNat)
  case atStart => exact ⟨0, S, Nat.zero_le _, rfl, hid (by rw [List.take_zero]; exact marked_nil H S), HM⟩
  case round =>
   obtain ⟨k, T, hk, rfl, HK, HT⟩ := hrel
   clear HM
   obtain ⟨wb, hwb⟩ : ∃ wb, wb = wr := ⟨_, rfl⟩
   subst hwb
   have hk0 : (0 : Int) ≤ (k : Int) := by omega
   by_cases hlt : k < R.length
   ·have hk1 : (k : Int) < (R.length : Int) := by omega
    obtain ⟨bb, off, hab, hd0, hd1⟩ := vl_at (HR.out.below HT.out.below) hlt
    cases hab
    have HPV := hid (HRP.out _ (List.getElem_mem hlt))
    have HTS := hid (take_snoc hlt)
    generalize R[k] = v at hd0 hd1 HPV HTS
    obtain ⟨vk, vn⟩ := v
    simp only at hd0 hd1
    obtain ⟨W3, hW3⟩ : ∃ W3, wb.alloc (.cells #[.int .i64 vk, .int .i64 vn] 49) = W3 := ⟨_, rfl⟩
    have HBa : Hid (Below wb.heap.size wb W3) := hid (hW3 ▸ ext_alloc _ _)
    have HT3 := hid (HT.out.later HBa.out)
    have hlt3 : wb.heap.size < W3.heap.size := by rw [← hW3]; simp
    have hr3 : W3.heap[wb.heap.size]? = some (.cells #[.int .i64 vk, .int .i64 vn] 49 (0, 0)) := hW3 ▸ heap_alloc_new _ _
    have x0 : W3.cell? ⟨wb.heap.size, 0, none⟩ = some (.int .i64 vk) := by rw [cell_of_row _ _ _ _ _ _ hr3]; rfl
    have x1 : W3.cell? ⟨wb.heap.size, 1, none⟩ = some (.int .i64 vn) := by rw [cell_of_row _ _ _ _ _ _ hr3]; rfl
    have HGB : Hid (g < wb.heap.size) := hid (Array.getElem?_eq_some_iff.1 HT.out.row).1
    have HR3 := hid hr3
    have HL3 := hid hlt3
    clear hr3 hlt3
    by_cases h3 : vk = 3
    ·subst h3
     by_cases h0 : 0 < vn
     ·obtain ⟨p, hpn, hpl⟩ := points_at HPV.out rfl h0
      simp only at hpn
      subst hpn
      have hpT : p + 1 < T.length := by have := HT.out.len; have := HT.out.num; omega
      have hn1 : (p : Int) + 1 < (n : Int) := by have := HT.out.num; omega
      have hn0 : (0 : Int) ≤ (p : Int) + 1 := by omega
      have hs0 : W3.cell? ⟨bs, 0, none⟩ = some (.slice (some ⟨g, 0, none⟩) n n) := by rw [cell_of_row _ _ _ _ _ _ HT3.out.cs]; rfl
      obtain ⟨hg0, hg1⟩ := HT3.out.at_ hpT
      cases hb : T[p + 1] with
      | true =>
       rw [hb] at hg0
       have HK2 : Hid (Marked H (R.take (k + 1)) S T) := hid (by
        rw [HTS.out]
        refine marked_skip HK.out fun _ => ?_
        show isM T ((p : Int) + 1).toNat
        rw [show ((p : Int) + 1).toNat = p + 1 from by omega]
        unfold isM
        rw [List.getElem?_eq_getElem hpT, hb])
       clear hb
       go_wp2_with fail
       go_roundw
       case rel => exact ⟨k + 1, T, by omega, by simp, HK2, HT3⟩
       case measure => simp [intOf]; omega
      | false =>
       rw [hb] at hg0
       have HTP : Hid (T[p + 1]? = some false) := hid (by rw [List.getElem?_eq_getElem hpT, hb])
       have HPL := hid hpl; have HPT := hid hpT
       have hw : wrap64 ((p : Int) + 1 - 1) = (p : Int) := by unfold wrap64; omega
       have HW2 : Hid (IntKind.i64.wrap (p : Int) = (p : Int)) := hid (by rw [IntKind.wrap_i64]; omega)
       have hp0 : (0 : Int) ≤ (p : Int) := by omega
       have hp1 : (p : Int) < (H.length : Int) := by omega
       clear hb
       obtain ⟨W4, hW4⟩ : ∃ W4, W3.setCell ⟨g, p + 1, none⟩ (.bool true) = W4 := ⟨_, rfl⟩
       have HT4 : Hid (MS w0 W4 g bs bm bh n ah ch H (T.set (p + 1) true)) := hid (hW4 ▸ HT3.out.put (p + 1))
       have HR4 : Hid (W4.heap[wb.heap.size]? = some (.cells #[.int .i64 3, .int .i64 ((p : Int) + 1)] 49 (0, 0))) := hid (by
        rw [← hW4]
        simp only [World.setCell, Array.getElem?_modify]
        rw [if_neg (by have := HGB.out; omega)]
        exact HR3.out)
       obtain ⟨hb, ho, hab, he0, he1⟩ := th_at (HH.out.below HT4.out.below) hpl
       have HAB := hid hab
       have HVX := hid (HH.out.at_ _ (List.getElem_mem hpl))
       have HPX := hid (HP.out _ (List.getElem_mem hpl))
       have HLX := hid (HLL.out _ (List.getElem_mem hpl))
       have HXG : Hid (H[((⟨3, (p : Int) + 1⟩ : Vl).n.toNat - 1)]? = some H[p]) := hid (by
        show H[((p : Int) + 1).toNat - 1]? = _
        rw [show ((p : Int) + 1).toNat - 1 = p from by omega]
        exact List.getElem?_eq_getElem hpl)
       have HLT : Hid ((⟨3, (p : Int) + 1⟩ : Vl).n.toNat < T.length) := hid (by show ((p : Int) + 1).toNat < _; omega)
       have HSE : Hid (T.set (⟨3, (p : Int) + 1⟩ : Vl).n.toNat true = T.set (p + 1) true) := hid (by show T.set ((p : Int) + 1).toNat true = _; rw [show ((p : Int) + 1).toNat = p + 1 from by omega])
       generalize H[p] = x at he0 he1 HVX HPX HXG HLX
       obtain ⟨ax, cx, hvh⟩ := HVX.out.val
       rw [hvh] at he1
       have HVX2 : Hid (Vls w0 (.slice ax x.has.length cx) x.has) := hid (by have := HVX.out; rwa [hvh] at this)
       have HRD : Hid (∀ u, Below W4.heap.size W4 u → u.cell? ⟨bm, 0, none⟩ = some (.func (.func 31) #[] #[.pointer (some ⟨bs, 0, none⟩), .pointer (some ⟨bm, 0, none⟩), .pointer (some ⟨bh, 0, none⟩)]) ∧ u.cell? ⟨bh, 0, none⟩ = some (.slice (some ⟨hb, ho, none⟩) H.length ch) ∧ u.cell? ⟨wb.heap.size, 0, none⟩ = some (.int .i64 3) ∧ u.cell? ⟨wb.heap.size, 1, none⟩ = some (.int .i64 ((p : Int) + 1)) ∧ u.cell? ⟨hb, ho + p * 2 + 1, none⟩ = some (.slice ax x.has.length cx)) := hid (fun u hu => by
        have hm := HT4.out.later hu
        have h4 := (hu.block _ (Array.getElem?_eq_some_iff.1 HR4.out).1).trans HR4.out
        refine ⟨by rw [cell_of_row _ _ _ _ _ _ hm.cm]; rfl, by rw [cell_of_row _ _ _ _ _ _ hm.chp]; simp [HAB.out], by rw [cell_of_row _ _ _ _ _ _ h4]; rfl, by rw [cell_of_row _ _ _ _ _ _ h4]; rfl, (hu.cell (World.block_lt_of_cell? _ _ he1)).trans he1⟩)
       clear he0 he1 hvh hab
       go_wp2_with fail
       refine wp_region_ext_tail 9 [] trivial (by kernel_rfl) (by kernel_rfl) ?_
       refine wpG_read 1 rfl rfl (.func (.func 31) #[] #[.pointer (some ⟨bs, 0, none⟩), .pointer (some ⟨bm, 0, none⟩), .pointer (some ⟨bh, 0, none⟩)]) rfl ?_ ?_
       ·intro u hu hh
        obtain ⟨r0, r1, r2, r3, r4⟩ := HRD.out u hu
        go_simp
       go_frame
       refine wpG_calc 2 rfl rfl rfl (fun u => by go_simp; rfl) ?_
       go_frame
       refine wpG_read 3 rfl rfl (.slice (some ⟨hb, ho, none⟩) H.length ch) rfl ?_ ?_
       ·intro u hu hh
        obtain ⟨r0, r1, r2, r3, r4⟩ := HRD.out u hu
        go_simp
       go_frame
       refine wpG_calc 4 rfl rfl rfl (fun u => by go_simp; rfl) ?_
       go_frame
       refine wpG_read 5 rfl rfl (.int .i64 ((p : Int) + 1)) rfl ?_ ?_
       ·intro u hu hh
        obtain ⟨r0, r1, r2, r3, r4⟩ := HRD.out u hu
        go_simp
       go_frame
       refine wpG_calc (v := .int .i64 (p : Int)) 6 rfl rfl rfl (fun u => by have hw2 := HW2.out; first | (go_simp; done) | (go_simp; exact hw2)) ?_
       go_frame
       refine wpG_calc 7 rfl rfl rfl (fun u => by go_simp; rfl) ?_
       go_frame
       refine wpG_calc 8 rfl rfl rfl (fun u => by go_simp; rfl) ?_
       go_frame
       refine wpG_read 9 rfl rfl (.slice ax x.has.length cx) rfl ?_ ?_
       ·intro u hu hh
        obtain ⟨r0, r1, r2, r3, r4⟩ := HRD.out u hu
        go_simp
       go_frame
       refine wpG_nil fun w' hb' hF => ?_
       clear hF
       have HT5 := hid (HT4.out.later hb')
       clear hb'
       go_wp2_with fail
       refine (IH.out (.slice ax x.has.length cx) x.has (T.set (p + 1) true) w' (by
        have h1 := left_set HTP.out
        have h2 := left_more HK.out.len HK.out.more
        have := HN.out
        omega) HVX2.out HPX.out HLX.out HT5.out).mono ?_
       rintro e w6 ⟨rfl, U, hU, hM6⟩
       have HU : Hid (Marked H (R.take (k + 1)) S U) := hid (by
        rw [HTS.out]
        exact marked_go HK.out ⟨rfl, by show (0 : Int) < (p : Int) + 1; omega⟩ HXG.out HLT.out (by rw [HSE.out]; exact hU))
       have HM6 := hid hM6
       clear hU hM6
       go_wp2_with fail
       go_roundw
       case rel => exact ⟨k + 1, U, by omega, by simp, HU, HM6⟩
       case measure => simp [intOf]; omega
     ·have HK2 : Hid (Marked H (R.take (k + 1)) S T) := hid (by rw [HTS.out]; exact marked_skip HK.out fun hl => absurd hl.2 h0)
      go_wp2_with fail
      go_roundw
      case rel => exact ⟨k + 1, T, by omega, by simp, HK2, HT3⟩
      case measure => simp [intOf]; omega
    ·have HK2 : Hid (Marked H (R.take (k + 1)) S T) := hid (by rw [HTS.out]; exact marked_skip HK.out fun hl => absurd hl.1 h3)
     have h4 : (vk == 3) = false := by simpa using h3
     go_wp2_with fail
     go_roundw
     case rel => exact ⟨k + 1, T, by omega, by simp, HK2, HT3⟩
     case measure => simp [intOf]; omega
   ·obtain rfl : k = R.length := by omega
    have HK2 : Hid (Marked H R S T) := hid (by have := HK.out; rwa [List.take_length] at this)
    clear hlt HK
    go_wp2
    go_end0
    exact ⟨rfl, T, HK2.out, HT.out⟩
theorem MS.sl {w0 w : World} {g bs bm bh n : Nat} {ah : Option Addr} {ch : Nat} {H : List Th} {T : List Bool} (h : MS w0 w g bs bm bh n ah ch H T) : Sl w (.slice (some ⟨g, 0, none⟩) n n) T.length 1 (T.map .bool) := by
 refine ⟨by rw [List.length_map, Nat.mul_one], _, _, ?_, Nat.le_of_eq h.len, .inr ⟨g, 0, rfl, fun j u hj => ?_⟩⟩
 ·rw [h.len]
 ·rw [Nat.zero_add, cell_of_row _ _ _ _ _ _ h.row]
  simpa using hj
set_option maxRecDepth 100000 in
set_option maxHeartbeats 8000000 in
theorem live_any (vt vr : Value) (H : List Th) (R : List Vl) (w : World) (hH : Ths w vt H) (hR : Vls w vr R) (hp : ∀ x ∈ H, ∀ v ∈ x.has, Points H v) (hl : ∀ x ∈ H, x.has.length ≤ 2000000) (hRp : ∀ v ∈ R, Points H v) (hRl : R.length ≤ 2000000) (hn : H.length ≤ 50) :
  Calls Tryz.prog 19 #[.agg #[vt], vr] w fun e w' => ∃ v T, e = .returned v ∧ Marked H R (List.replicate (H.length + 1) false) T ∧ Sl w' v T.length 1 (T.map .bool) ∧ Below w.heap.size w w' := by
 obtain ⟨ah, ch, rfl⟩ := hH.sl.val
 obtain ⟨ar, cr, rfl⟩ := hR.val
 obtain ⟨bh, hbh⟩ : ∃ bh, w.heap.size = bh := ⟨_, rfl⟩
 obtain ⟨W1, hW1⟩ : ∃ W1, w.alloc (.cells #[.slice ah H.length ch] 25) = W1 := ⟨_, rfl⟩
 have HB1 : Hid (Below w.heap.size w W1) := hid (hW1 ▸ ext_alloc _ _)
 have hr1 : W1.heap[bh]? = some (.cells #[.slice ah H.length ch] 25 (0, 0)) := by rw [← hW1, ← hbh]; exact heap_alloc_new _ _
 have x0 : W1.cell? ⟨bh, 0, none⟩ = some (.slice ah H.length ch) := by rw [cell_of_row _ _ _ _ _ _ hr1]; rfl
 obtain ⟨n, hnn⟩ : ∃ n, H.length + 1 = n := ⟨_, rfl⟩
 have hn1 : (H.length : Int) + 1 = (n : Int) := by omega
 have hnm : n ≤ 51 := by omega
 obtain ⟨M, hM⟩ : ∃ M, madeCells #[.bool false] n = M := ⟨_, rfl⟩
 have hMr : M = ((List.replicate n false).map Value.bool).toArray := by
  rw [← hM, madeCells_one, List.map_replicate, List.toArray_replicate]
 obtain ⟨si, hsi, hz, hsz, hby⟩ := info_parts (show (Tryz.prog.info? 4).map (fun i => (i.zero, i.size, i.bytes)) = some (some (.bool false), 1, 1) by kernel_rfl)
 have hmk : (Instr.makeSlice 39 (.int .i64 (n : Int)) (.int .i64 (n : Int))).run Tryz.prog W1 = .ok (.slice (some ⟨W1.heap.size, 0, none⟩) n n) (W1.alloc (.cells M 4)) := by
  have := run_makeSlice (P := Tryz.prog) W1 39 4 si _ Tryz.underlying39 hsi hz .i64 .i64 (n : Int) (n : Int) (by omega) (by omega) (by rw [hsz]; simp; omega) (by rw [hby]; omega) (by omega)
  rw [hsz] at this
  simp only [Int.toNat_natCast, Nat.mul_one] at this
  rw [show madeCells (Value.bool false).cells n = M from hM] at this
  exact this
 obtain ⟨g, hg⟩ : ∃ g, W1.heap.size = g := ⟨_, rfl⟩
 have hmf : ∀ (fn : Fn) (first cap : Array Value) (w : World), (Instr.makeFunc fn first cap).run Tryz.prog w = .ok (.func fn first cap) w := fun _ _ _ _ => rfl
 have HH := hid hH; have HR := hid hR; have HP := hid hp; have HL := hid hl; have HRP := hid hRp; have HRL := hid hRl
 have HR1 := hid hr1
 have HNN := hid hnn; have HMR := hid hMr
 obtain ⟨FV, hFV⟩ : ∃ FV, Value.func (.func 31) #[] #[.pointer (some ⟨g + 1, 0, none⟩), .pointer (some ⟨g + 1 + 1, 0, none⟩), .pointer (some ⟨bh, 0, none⟩)] = FV := ⟨_, rfl⟩
 obtain ⟨W4, hW4⟩ : ∃ W4, ((W1.alloc (.cells M 4)).alloc (.cells #[.slice (some ⟨g, 0, none⟩) n n] 39)).alloc (.cells #[.nilFunc] 69) = W4 := ⟨_, rfl⟩
 have z1 : (W1.alloc (.cells M 4)).heap.size = g + 1 := by rw [World.size_alloc, hg]
 have z2 : ((W1.alloc (.cells M 4)).alloc (.cells #[.slice (some ⟨g, 0, none⟩) n n] 39)).heap.size = g + 1 + 1 := by rw [World.size_alloc, z1]
 have r4 : W4.heap[g + 1 + 1]? = some (.cells #[.nilFunc] 69 (0, 0)) := by rw [← hW4, ← z2]; exact heap_alloc_new _ _
 have r3 : W4.heap[g + 1]? = some (.cells #[.slice (some ⟨g, 0, none⟩) n n] 39 (0, 0)) := by
  rw [← hW4]
  refine ((ext_alloc _ _).block (g + 1) (by rw [z2]; omega)).trans ?_
  rw [← z1]; exact heap_alloc_new _ _
 have r2 : W4.heap[g]? = some (.cells M 4 (0, 0)) := by
  rw [← hW4]
  refine ((ext_alloc _ _).block g (by rw [z2]; omega)).trans (((ext_alloc _ _).block g (by rw [z1]; omega)).trans ?_)
  rw [← hg]; exact heap_alloc_new _ _
 have HB14 : Below W1.heap.size W1 W4 := by
  rw [← hW4]
  exact (ext_alloc _ _).trans (((ext_alloc _ _).trans ((ext_alloc _ _).mono (ext_alloc _ _).size)).mono (ext_alloc _ _).size)
 have hgb : bh < g := by rw [← hg, ← hbh]; rw [← hW1]; simp
 have r1 : W4.heap[bh]? = some (.cells #[.slice ah H.length ch] 25 (0, 0)) := (HB14.block bh (by omega)).trans hr1
 have HM4 : Hid (MS w (W4.setCell ⟨g + 1 + 1, 0, none⟩ (.func (.func 31) #[] #[.pointer (some ⟨g + 1, 0, none⟩), .pointer (some ⟨g + 1 + 1, 0, none⟩), .pointer (some ⟨bh, 0, none⟩)])) g (g + 1) (g + 1 + 1) bh n ah ch H (List.replicate n false)) := hid (by
  have hle : w.heap.size ≤ g + 1 + 1 := by omega
  refine ⟨(HB1.out.trans (HB14.mono HB1.out.size)).setCell hle _, ?_, ?_, ?_, ?_, by rw [List.length_replicate], hnn.symm, by omega, by omega⟩
  ·rw [setCell_other (by omega), r2, hMr]
  ·rw [setCell_other (by omega)]; exact r3
  ·exact setCell_row r4
  ·rw [setCell_other (by omega)]; exact r1)
 have c4 : W4.cell? ⟨g + 1 + 1, 0, none⟩ = some .nilFunc := by rw [cell_of_row _ _ _ _ _ _ r4]; rfl
 have f4 : W4.frozen? ⟨g + 1 + 1, 0, none⟩ = false := frozen_of_row _ _ _ _ _ r4
 obtain ⟨W5, hW5⟩ : ∃ W5, W4.setCell ⟨g + 1 + 1, 0, none⟩ (.func (.func 31) #[] #[.pointer (some ⟨g + 1, 0, none⟩), .pointer (some ⟨g + 1 + 1, 0, none⟩), .pointer (some ⟨bh, 0, none⟩)]) = W5 := ⟨_, rfl⟩
 rw [hW5] at HM4
 have c5 : W5.cell? ⟨g + 1 + 1, 0, none⟩ = some (.func (.func 31) #[] #[.pointer (some ⟨g + 1, 0, none⟩), .pointer (some ⟨g + 1 + 1, 0, none⟩), .pointer (some ⟨bh, 0, none⟩)]) := by rw [cell_of_row _ _ _ _ _ _ HM4.out.cm]; rfl
 clear z1 z2 r1 r2 r3 r4 HB14 hgb hFV
 clear hH hR hp hl hRp hRl hM hsi hz hsz hby hr1 hMr hnn
 go_enter Tryz.func19, Tryz.ntmps19
 go_wp2_with fail
 refine (mark_any HH.out HP.out HL.out hn (left (List.replicate n false) + 1) (.slice ar R.length cr) R (List.replicate n false) W5 (Nat.lt_succ_self _) HR.out HRP.out HRL.out HM4.out).mono ?_
 rintro e w6 ⟨rfl, T, hT, hM6⟩
 have HT := hid hT
 have HM6 := hid hM6
 have c6 : w6.cell? ⟨g + 1, 0, none⟩ = some (.slice (some ⟨g, 0, none⟩) n n) := by rw [cell_of_row _ _ _ _ _ _ HM6.out.cs]; rfl
 clear hT hM6
 go_wp2
 go_ret
 exact ⟨_, T, rfl, by rw [HNN.out]; exact HT.out, HM6.out.sl, HM6.out.below⟩
end Go.Proofs.YtlhobhnbgdicjaaGreatDoor.worlds
namespace Go.Proofs.YtlhobhnbgdicjaaGreatDoor.grow
open RowKit
section
variable {P : Program} {ops : Array Oper} {md : Region.Mode} {Q : Exit → Act → World → Prop} {D : World → Prop} {s : Nat} {pu : Bool}
def CS (D : World → Prop) (s : Nat) (listed : Array Bool) (w : World) : Prop := listed.getD s false = false → D w
def Closed (md : Region.Mode) (ops : Array Oper) (listed : Array Bool) : Prop := ∀ j oj, ops[j]? = some oj → listed.getD j false = true → ∀ e ∈ oj.after, Region.binds md e = true → listed.getD e.on false = true
def behB (md : Region.Mode) (ops : Array Oper) (i : Nat) : Nat → Nat → Bool
 | 0, _ => false
 | f + 1, s => match ops[s]? with
  | none => false
  | some o => o.after.any fun e => Region.binds md e && (e.on == i || behB md ops i f e.on)
theorem behind {i : Nat} : ∀ {f s : Nat} {listed : Array Bool}, Closed md ops listed → behB md ops i f s = true → listed.getD i false = false → listed.getD s false = false
 | 0, _, _, _, h, _ => by cases h
 | f + 1, s, listed, hc, h, hi => by
  unfold behB at h
  split at h
  ·cases h
  ·rename_i o ho
   obtain ⟨e, he, hb⟩ := Array.any_eq_true'.1 h
   simp only [Bool.and_eq_true, Bool.or_eq_true, beq_iff_eq] at hb
   cases hs : listed.getD s false with
   | false => rfl
   | true =>
    have h1 := hc s o ho hs e he hb.1
    rcases hb.2 with h2 | h2
    ·rw [h2, hi] at h1; cases h1
    ·rw [behind hc h2 hi] at h1; cases h1
theorem closed_set {i : Nat} {listed : Array Bool} (hc : Closed md ops listed) (hi : i ∈ Region.ready md ops listed) : Closed md ops (listed.setIfInBounds i true) := by
 obtain ⟨_, oi, hoi, hall⟩ := mem_ready.1 hi
 intro j oj hj hl e he hb
 by_cases hij : i = j
 ·subst hij
  have : oj = oi := Option.some.inj (hj.symm.trans hoi)
  subst this
  exact getD_set_true (hall e he hb)
 ·rw [getD_set_ne false hij] at hl
  exact getD_set_true (hc j oj hj hl e he hb)
def wpAnyS (P : Program) (md : Region.Mode) (ops : Array Oper) (Q : Exit → Act → World → Prop) (D : World → Prop) (s : Nat) : Nat → Array Bool → Act → World → Prop
 | 0, listed, a, w => Region.ready md ops listed = [] ∧ Q .normal a w
 | f + 1, listed, a, w => (Region.ready md ops listed = [] → Q .normal a w) ∧ ∀ i ∈ Region.ready md ops listed, wpOp P ops Q i (fun a' w' => CS D s (listed.setIfInBounds i true) w' ∧ wpAnyS P md ops Q D s f (listed.setIfInBounds i true) a' w') a w
theorem wpAny_of_S : ∀ (f : Nat) (listed : Array Bool) (a : Act) (w : World), wpAnyS P md ops Q D s f listed a w → wpAny P md ops Q f listed a w
 | 0, _, _, _, h => h
 | f + 1, _, _, _, h => ⟨h.1, fun i hi => wpOp_mono (fun a' w' h' => wpAny_of_S f _ a' w' h'.2) (h.2 i hi)⟩
def YieldsS (P : Program) (ops : Array Oper) (D : World → Prop) (pu : Bool) (o : Oper) (v : Value) (a : Act) : Prop :=
 Region.wanted o (yielded ops a.tmps) = true ∧ ∀ w, (pu = true ∨ D w) → (execOp a.eval o).run P w = .ok (.value v) w
theorem upon_putS {o : Oper} {d : Option Tmp} {v : Value} {a : Act} {Y : Act → Prop} {K : Act → World → Prop} {r : Result Next} (hne : ∀ e, o.dst = some e → d ≠ some e) (hput : ∀ u, (a.put d v).put o.dst u = (a.put o.dst u).put d v)
  (hQ : ∀ c w, Q (.panic c) (a.put d v) w → Q (.panic c) a w) (hY : ∀ u, Y (a.put o.dst u)) (hD : ∀ x, Y (({ a with defers := x :: a.defers } : Act).put o.dst undef) ∧ ({ (a.put d v) with defers := x :: (a.put d v).defers } : Act).put o.dst undef = (({ a with defers := x :: a.defers } : Act).put o.dst undef).put d v)
  (h : o.upon P (a.put d v) K Q r) : o.upon P a (fun a' w' => Y a' ∧ K (a'.put d v) w') Q r := by
 cases r with
 | ok n w' =>
  cases n
  case value u => exact ⟨hY u, by have h' : K ((a.put d v).put o.dst u) w' := h; rw [hput] at h'; exact h'⟩
  case skip => exact ⟨hY _, by have h' : K ((a.put d v).put o.dst undef) w' := h; rw [hput] at h'; exact h'⟩
  case defer x => exact ⟨(hD x).1, by have h' : K _ w' := h; rw [(hD x).2] at h'; exact h'⟩
  case enter f args =>
   simp only [Oper.upon] at h ⊢
   refine Calls.mono h fun e w'' he => ?_
   cases e with
   | returned u => exact ⟨hY u, by have h' : K ((a.put d v).put o.dst u) w'' := he; rw [hput] at h'; exact h'⟩
   | panicked c => exact hQ _ _ he
   | outgrown => exact he
  case row row args =>
   simp only [Oper.upon] at h ⊢
   exact Rows.mono h fun u w'' he => ⟨hY u, by have h' : K ((a.put d v).put o.dst u) w'' := he; rw [hput] at h'; exact h'⟩
  all_goals (simp only [Oper.upon] at h)
 | halt x w' =>
  cases x <;> simp only [Oper.upon] at h ⊢
  case panic u => exact hQ _ _ h
theorem wpOp_putS {j : Nat} {oi oj : Oper} {v : Value} (hj : ops[j]? = some oj) (hap : oi.apart ops oj = true) (hsi : ∀ cs b, oi.op ≠ .select cs b) (hsj : ∀ cs b, oj.op ≠ .select cs b)
  (hQ : ∀ c a w, Q (.panic c) (a.put oi.dst v) w → Q (.panic c) a w) {K : Act → World → Prop} {a : Act} {w : World} (hy : YieldsS P ops D pu oi v a) (h : wpOp P ops Q j K (a.put oi.dst v) w) :
  wpOp P ops Q j (fun a' w' => YieldsS P ops D pu oi v a' ∧ K (a'.put oi.dst v) w') a w := by
 obtain ⟨q1, q2, q3⟩ := Oper.apart_spec hap
 have keep : ∀ a', YieldsS P ops D pu oi v a' → ∀ u, YieldsS P ops D pu oi v (a'.put oj.dst u) := fun a' hy u => by
  unfold YieldsS at *
  rw [execOp_put oi hsi a' oj.dst u q3, wanted_put oi a' oj.dst u q3]
  exact hy
 unfold wpOp at *
 simp only [hj] at *
 rw [wanted_put oj a oi.dst v q1] at h
 by_cases hw : Region.wanted oj (yielded ops a.tmps) = true
 ·rw [if_pos hw] at h ⊢
  rcases h with h | ⟨h1, h2⟩
  ·refine .inl ?_
   unfold Oper.wp at *
   rw [execOp_put oj hsj a oi.dst v q1] at h
   refine upon_putS (fun e he hd => ?_) (fun u => (Act.put_comm a v u q2).symm ▸ rfl) (fun c w => hQ c a w) (keep a hy) (fun x => ⟨keep ({ a with defers := x :: a.defers } : Act) hy _, ?_⟩) h
   ·exact q2 e (by rw [hd]) he
   ·rw [Act.put_defers, Act.put_comm _ v undef q2]
  ·exact .inr ⟨by unfold Oper.asks at *; rw [execOp_put oj hsj a oi.dst v q1] at h1; exact h1, h2⟩
 ·rw [if_neg hw] at h ⊢
  exact ⟨keep a hy _, by rw [← Act.put_comm a v undef q2]; exact h⟩
theorem yieldsS_run {i : Nat} {oi : Oper} {v : Value} {a : Act} {w : World} (hi : ops[i]? = some oi) (h : YieldsS P ops D pu oi v a) (hC : pu = true ∨ D w) {K : Act → World → Prop} (hK : K (a.put oi.dst v) w) : wpOp P ops Q i K a w := by
 unfold wpOp
 simp only [hi]
 rw [if_pos h.1]
 refine .inl ?_
 unfold Oper.wp
 rw [h.2 w hC]
 exact hK
theorem holdsS {i : Nat} {listed : Array Bool} {w : World} {f : Nat} (hb : pu = true ∨ behB md ops i f s = true) (hcl : Closed md ops listed) (hun : listed.getD i false = false) (hC : CS D s listed w) : pu = true ∨ D w := by
 rcases hb with h | h
 ·exact .inl h
 ·exact .inr (hC (behind hcl h hun))
theorem wpAnyS_first {i f0 : Nat} {oi : Oper} {v : Value} (hi : ops[i]? = some oi) (hsel : ∀ (j : Nat) (o : Oper) cs b, ops[j]? = some o → o.op ≠ .select cs b) (hQ : ∀ c a w, Q (.panic c) (a.put oi.dst v) w → Q (.panic c) a w)
  (hb : pu = true ∨ behB md ops i f0 s = true) (hsi : s ≠ i) :
  ∀ (fuel : Nat) (listed : Array Bool) (a : Act) (w : World),
   (∀ j oj, ops[j]? = some oj → j ≠ i → listed.getD j true = false → (∀ e ∈ oj.after, Region.binds md e = true → e.on ≠ i) → oi.apart ops oj = true) →
   Closed md ops listed → i ∈ Region.ready md ops listed → YieldsS P ops D pu oi v a → CS D s listed w → wpAnyS P md ops Q D s fuel (listed.setIfInBounds i true) (a.put oi.dst v) w → wpAnyS P md ops Q D s (fuel + 1) listed a w := by
 have hcs : ∀ {listed : Array Bool} {w : World}, CS D s listed w → CS D s (listed.setIfInBounds i true) w := fun {listed w} h hl => h (by
  cases hs : listed.getD s false with
  | false => rfl
  | true => rw [getD_set_true hs] at hl; cases hl)
 intro fuel
 induction fuel with
 | zero =>
  intro listed a w _ hcl hr hy hC H
  have hun := getD_both (mem_ready.1 hr).1
  refine ⟨fun h => (by rw [h] at hr; cases hr), fun j hj => ?_⟩
  by_cases hji : j = i
  ·subst hji; exact yieldsS_run hi hy (holdsS hb hcl hun hC) ⟨hcs hC, H⟩
  ·have := ready_mono hj hji
   rw [H.1] at this
   cases this
 | succ fuel ih =>
  intro listed a w hfree hcl hr hy hC H
  have hun := getD_both (mem_ready.1 hr).1
  refine ⟨fun h => (by rw [h] at hr; cases hr), fun j hj => ?_⟩
  by_cases hji : j = i
  ·subst hji; exact yieldsS_run hi hy (holdsS hb hcl hun hC) ⟨hcs hC, H⟩
  ·have h1 := H.2 j (ready_mono hj hji)
   obtain ⟨hjun, oj, hoj, hall⟩ := mem_ready.1 hj
   have hnot : ∀ e ∈ oj.after, Region.binds md e = true → e.on ≠ i := fun e he hb heq => by
    have h1 := hall e he hb
    rw [heq, hun] at h1
    cases h1
   have h2 := wpOp_putS hoj (hfree j oj hoj hji hjun hnot) (fun cs b => hsel i oi cs b hi) (fun cs b => hsel j oj cs b hoj) hQ hy h1
   have hfree' : ∀ k ok, ops[k]? = some ok → k ≠ i → (listed.setIfInBounds j true).getD k true = false →
     (∀ e ∈ ok.after, Region.binds md e = true → e.on ≠ i) → oi.apart ops ok = true := fun k ok hk hki hun hno => by
    refine hfree k ok hk hki ?_ hno
    by_cases hjk : j = k
    ·subst hjk; exact hjun
    ·rw [getD_set_ne true hjk] at hun; exact hun
   have hun' : (listed.setIfInBounds j true).getD i false = false := by rw [getD_set_ne false hji]; exact hun
   refine wpOp_mono (fun a' w' h3 => ?_) h2
   have hC' : CS D s (listed.setIfInBounds j true) w' := fun hl => by
    refine h3.2.1 ?_
    rw [Array.setIfInBounds_comm _ _ (Ne.symm hji), getD_set_ne false (Ne.symm hsi)]
    exact hl
   refine ⟨hC', ?_⟩
   refine ih _ _ _ hfree' (closed_set hcl hj) (ready_mono hr (Ne.symm hji)) h3.1 hC' ?_
   rw [Array.setIfInBounds_comm _ _ hji]
   exact h3.2.2
theorem putS_defers (a : Act) (x : Option Tmp) (v : Value) : (a.put x v).defers = a.defers := by cases x <;> rfl
theorem wp_region_s {id : Nat} {a : Act} {w : World} {l : List Oper} (D : World → Prop) (s : Nat) (hm : P.follows .mixedOrders = true)
  (h : wpAnyS P .any l.toArray Q D s l.length (Array.replicate l.length false) a { w with drawn := w.drawn + 1 }) : (Code.region id l.toArray true).wp P Q a w :=
 wp_region_any hm (by simpa using wpAny_of_S _ _ _ _ h)
def closedB (md : Region.Mode) (ops : Array Oper) (listed : Array Bool) : Bool :=
 (List.range ops.size).all fun j => !listed.getD j false || (match ops[j]? with | none => true | some o => o.after.all fun e => !Region.binds md e || listed.getD e.on false)
theorem closed_of {listed : Array Bool} (h : closedB md ops listed = true) : Closed md ops listed := by
 intro j oj hj hl e he hb
 have hjs : j < ops.size := (Array.getElem?_eq_some_iff.1 hj).1
 have h1 := List.all_eq_true.1 h j (List.mem_range.2 hjs)
 rw [hl, hj] at h1
 simp only [Bool.not_true, Bool.false_or] at h1
 have h2 := Array.all_eq_true'.1 h1 e he
 rw [hb] at h2
 simpa using h2
theorem s_take {n : Nat} {listed : Array Bool} {a : Act} {w : World} (i : Nat) (o : Oper) (v : Value) (hi : ops[i]? = some o) (hs : Region.noSelect ops = true) (hf : Region.free .any ops listed i = true) (hr : (Region.ready .any ops listed).contains i = true)
  (hcl : closedB .any ops listed = true) (hb : behB .any ops i ops.size s = true) (hsi : s ≠ i)
  (hw : Region.wanted o (yielded ops a.tmps) = true) (hQ : ∀ c a w, Q (.panic c) (a.put o.dst v) w → Q (.panic c) a w) (hC : CS D s listed w) (h : ∀ w, D w → (execOp a.eval o).run P w = .ok (.value v) w)
  (hn : wpAnyS P .any ops Q D s n (listed.setIfInBounds i true) (a.put o.dst v) w) : wpAnyS P .any ops Q D s (n + 1) listed a w :=
 wpAnyS_first (pu := false) hi (Region.noSelect_spec hs) hQ (.inr hb) hsi n listed a w (Region.free_spec hi hf) (closed_of hcl) (by simpa using hr) ⟨hw, fun w h1 => h w (h1.resolve_left (by decide))⟩ hC hn
theorem s_calc {n : Nat} {listed : Array Bool} {a : Act} {w : World} (i : Nat) (o : Oper) (v : Value) (hi : ops[i]? = some o) (hs : Region.noSelect ops = true) (hf : Region.free .any ops listed i = true) (hr : (Region.ready .any ops listed).contains i = true)
  (hcl : closedB .any ops listed = true) (hsi : s ≠ i)
  (hw : Region.wanted o (yielded ops a.tmps) = true) (hQ : ∀ c a w, Q (.panic c) (a.put o.dst v) w → Q (.panic c) a w) (hC : CS D s listed w) (h : ∀ w, (execOp a.eval o).run P w = .ok (.value v) w)
  (hn : wpAnyS P .any ops Q D s n (listed.setIfInBounds i true) (a.put o.dst v) w) : wpAnyS P .any ops Q D s (n + 1) listed a w :=
 wpAnyS_first (pu := true) (f0 := 0) hi (Region.noSelect_spec hs) hQ (.inl rfl) hsi n listed a w (Region.free_spec hi hf) (closed_of hcl) (by simpa using hr) ⟨hw, fun w _ => h w⟩ hC hn
theorem s_only {n : Nat} {listed : Array Bool} {a : Act} {w : World} (i : Nat) (o : Oper) (hi : ops[i]? = some o) (hr : Region.ready .any ops listed = [i])
  (h : if Region.wanted o (yielded ops a.tmps) = true then o.wp P a w (fun a' w' => CS D s (listed.setIfInBounds i true) w' ∧ wpAnyS P .any ops Q D s n (listed.setIfInBounds i true) a' w') Q else False) : wpAnyS P .any ops Q D s (n + 1) listed a w := by
 refine ⟨fun h0 => (by rw [hr] at h0; cases h0), fun j hj => ?_⟩
 rw [hr] at hj
 obtain rfl := List.mem_singleton.1 hj
 unfold wpOp
 simp only [hi]
 by_cases hw : Region.wanted o (yielded ops a.tmps) = true
 ·rw [if_pos hw] at h ⊢; exact .inl h
 ·rw [if_neg hw] at h; exact h.elim
theorem s_two {n : Nat} {listed : Array Bool} {a : Act} {w : World} (i j : Nat) (oi oj : Oper) (hi : ops[i]? = some oi) (hj : ops[j]? = some oj) (hr : Region.ready .any ops listed = [i, j])
  (h1 : if Region.wanted oi (yielded ops a.tmps) = true then oi.wp P a w (fun a' w' => CS D s (listed.setIfInBounds i true) w' ∧ wpAnyS P .any ops Q D s n (listed.setIfInBounds i true) a' w') Q else False)
  (h2 : if Region.wanted oj (yielded ops a.tmps) = true then oj.wp P a w (fun a' w' => CS D s (listed.setIfInBounds j true) w' ∧ wpAnyS P .any ops Q D s n (listed.setIfInBounds j true) a' w') Q else False) : wpAnyS P .any ops Q D s (n + 1) listed a w := by
 refine ⟨fun h0 => (by rw [hr] at h0; cases h0), fun k hk => ?_⟩
 rw [hr] at hk
 simp only [List.mem_cons, List.not_mem_nil, or_false] at hk
 rcases hk with rfl | rfl
 ·unfold wpOp
  simp only [hi]
  by_cases hw : Region.wanted oi (yielded ops a.tmps) = true
  ·rw [if_pos hw] at h1 ⊢; exact .inl h1
  ·rw [if_neg hw] at h1; exact h1.elim
 ·unfold wpOp
  simp only [hj]
  by_cases hw : Region.wanted oj (yielded ops a.tmps) = true
  ·rw [if_pos hw] at h2 ⊢; exact .inl h2
  ·rw [if_neg hw] at h2; exact h2.elim
theorem s_end {n : Nat} {listed : Array Bool} {a : Act} {w : World} (hr : Region.ready .any ops listed = []) (h : Q .normal a w) : wpAnyS P .any ops Q D s n listed a w := by
 cases n with
 | zero => exact ⟨hr, h⟩
 | succ n => exact ⟨fun _ => h, fun i hi => by rw [hr] at hi; cases hi⟩
end
end Go.Proofs.YtlhobhnbgdicjaaGreatDoor.grow
namespace Go.Proofs.YtlhobhnbgdicjaaGreatDoor.worlds
open Go.RowKit lib maps classes errs grow
end Go.Proofs.YtlhobhnbgdicjaaGreatDoor.worlds
namespace Go.Proofs.YtlhobhnbgdicjaaGreatDoor.worlds
open Go.RowKit lib maps classes errs descs names grow ins
theorem roots_ok {l : List CV} {H : List Th} {R : List Vl} (h : rootsF l H R = 0) : H.length ≤ 50 ∧ (∀ x ∈ H, ∀ v ∈ x.has, Points H v) ∧ (∀ v ∈ R, Points H v) ∧ R.length ≤ 50 := by
 unfold rootsF at h
 by_cases h0 : heapF l H ≠ 0
 ·rw [if_pos h0] at h; exact absurd h h0
 rw [if_neg h0] at h
 have h0' : heapF l H = 0 := by simpa using h0
 obtain ⟨_, h2, _⟩ := heap_types h0'
 obtain ⟨h3, h4⟩ := right_points h2
 by_cases h5 : 50 < R.length
 ·rw [if_pos h5] at h; cases h
 rw [if_neg h5] at h
 refine ⟨h3, h4, fun v hv => ?_, by omega⟩
 have := ff_all.1 h v hv
 unfold rootF at this
 by_cases ho : rootOk (readW l).2 H v = true
 ·exact root_points ho
 ·rw [if_neg ho] at this; cases this
theorem infoI : (Tryz.prog.info? 3).map (fun i => (i.zero, i.size, i.bytes)) = some (some (.int .i64 0), 1, 8) := by kernel_rfl
theorem bool_at {w : World} {a : Option Addr} {n c : Nat} {l : List Bool} (h : Sl w (.slice a n c) l.length 1 (l.map .bool)) {k : Nat} (hk : k < l.length) :
  ∃ b off, a = some ⟨b, off, none⟩ ∧ w.cell? ⟨b, off + k, none⟩ = some (.bool l[k]) := by
 obtain ⟨_, a', c', he, _, h⟩ := h
 simp only [Value.slice.injEq] at he
 obtain ⟨rfl, _, rfl⟩ := he
 rcases h with h | ⟨b, off, rfl, h⟩
 ·have : l.length = 0 := by simpa using congrArg List.length h
  omega
 ·exact ⟨b, off, rfl, h k _ (by rw [List.getElem?_map, List.getElem?_eq_getElem hk]; rfl)⟩
def LiveBy (w : World) (l : List CV) (H : List Th) (R : List Vl) (e : Ending) (w' : World) : Prop :=
 if rootsF l H R = 0 then ∃ v bs, e = .returned (.tuple #[v, .nilIface]) ∧ Done H R bs ∧ Out w w' 3 1 v (placesL (false :: bs)).length ((placesL (false :: bs)).map (.int .i64))
 else e = .returned (.tuple #[.slice none 0 0, errVal (rootsF l H R)]) ∧ Below w.heap.size w w'
theorem liveBy_ok {w w' : World} {l : List CV} {H : List Th} {R : List Vl} {v : Value} {bs : List Bool} (h0 : rootsF l H R = 0) (hd : Done H R bs) (ho : Out w w' 3 1 v (placesL (false :: bs)).length ((placesL (false :: bs)).map (.int .i64))) : LiveBy w l H R (.returned (.tuple #[v, .nilIface])) w' := by
 unfold LiveBy; rw [if_pos h0]; exact ⟨v, bs, rfl, hd, ho⟩
theorem liveBy_err {w w' : World} {l : List CV} {H : List Th} {R : List Vl} {v : Value} (h0 : ¬ rootsF l H R = 0) (hv : errVal (rootsF l H R) = v) (hb : Below w.heap.size w w') : LiveBy w l H R (.returned (.tuple #[.slice none 0 0, v])) w' := by
 unfold LiveBy; rw [if_neg h0, hv]; exact ⟨rfl, hb⟩
set_option maxRecDepth 100000 in
set_option maxHeartbeats 8000000 in
theorem slive_any (va vt vr : Value) (l : List CV) (H : List Th) (R : List Vl) (w : World) (hl : Clss w va l) (hf : FormsAt w) (hsm : ∀ c ∈ l, SmallC c) (hn : l.length ≤ 1048576) (hH : Ths w vt H) (hs : SmallH H) (hm : H.length ≤ 1048576) (hR : Vls w vr R) :
  Calls Tryz.prog 6 #[va, .agg #[vt], vr] w (LiveBy w l H R) := by
 obtain ⟨ah, ch, rfl⟩ := hH.sl.val
 obtain ⟨al, cl, rfl⟩ := hl.val
 obtain ⟨ar, cr, rfl⟩ := hR.val
 obtain ⟨b1, hb1⟩ : ∃ b1, w.heap.size = b1 := ⟨_, rfl⟩
 obtain ⟨W1, hW1⟩ : ∃ W1, w.alloc (.cells #[.slice ah H.length ch] 25) = W1 := ⟨_, rfl⟩
 have HB1 : Hid (Below w.heap.size w W1) := hid (hW1 ▸ ext_alloc _ _)
 have hr1 : W1.heap[b1]? = some (.cells #[.slice ah H.length ch] 25 (0, 0)) := by rw [← hW1, ← hb1]; exact heap_alloc_new _ _
 have hlt1 := (Array.getElem?_eq_some_iff.1 hr1).1
 have HX : Hid (∀ u, Below W1.heap.size W1 u → u.cell? ⟨b1, 0, none⟩ = some (.slice ah H.length ch)) := hid (fun u hu => by
  have h := (hu.block _ hlt1).trans hr1
  rw [cell_of_row _ _ _ _ _ _ h]; rfl)
 have x0 := HX.out _ (Below.refl _ _)
 have HRD := hid (sread_any _ _ _ l H R W1 (hl.below HB1.out) (hf.below HB1.out) hsm hn (hH.below HB1.out) hs hm (hR.below HB1.out))
 have HH := hid hH; have HR := hid hR; have HS := hid hs
 clear hl hf hsm hn hH hs hR hr1
 go_enter Tryz.func6, Tryz.ntmps6
 go_wp2_with fail
 refine HRD.out.mono ?_
 rintro e w2 ⟨rfl, hb2⟩
 have H12 := hid hb2
 have HB2 := hid (HB1.out.trans (hb2.mono HB1.out.size))
 have x0 := HX.out _ hb2
 clear hb2
 by_cases h0 : rootsF l H R = 0
 ·have H0 := hid h0
  obtain ⟨hn50, hp, hrp, hrl⟩ := roots_ok h0
  have HHL : Hid (∀ x ∈ H, x.has.length ≤ 2000000) := hid (fun x hx => by have := (HS.out x hx).2; omega)
  have HLV := hid (live_any _ _ H R w2 (HH.out.below HB2.out) (HR.out.below HB2.out) hp HHL.out hrp (by omega) hn50)
  rw [h0, show errVal 0 = .nilIface from rfl]
  clear h0 hp hrp
  go_wp2_with fail
  refine HLV.out.mono ?_
  rintro e w3 ⟨v3, T, rfl, hT, hs3, hb3⟩
  obtain ⟨bs, hTb, hD⟩ := marked_done hT
  have HB3 := hid (HB2.out.trans (hb3.mono HB2.out.size))
  have HD := hid hD
  have HTB := hid hTb
  have HS3 := hid hs3
  obtain ⟨a3, c3, rfl⟩ := hs3.val
  have HTL : Hid (T.length ≤ 51) := hid (by rw [hTb, List.length_cons, hD.len]; omega)
  have hTl := HTL.out
  clear hT hs3 hb3 hTb hD
  go_wp2_with fail
  go_loopw [9, 23] (fun v9 v23 wr => ∃ k : Nat, k ≤ T.length ∧ v23 = .int .i64 (k : Int) ∧ Hid (Out w3 wr 3 1 v9 (placesL (T.take k)).length ((placesL (T.take k)).map (.int .i64)))) (fun _ v _ => T.length - (intOf v).toNat)
  case atStart => exact ⟨0, Nat.zero_le _, rfl, hid (by rw [List.take_zero]; exact Out.nil _ _ _)⟩
  case round =>
   obtain ⟨k, hk, rfl, HO⟩ := hrel
   obtain ⟨wb, hwb⟩ : ∃ wb, wb = wr := ⟨_, rfl⟩
   subst hwb
   have hk0 : (0 : Int) ≤ (k : Int) := by omega
   by_cases hlt : k < T.length
   ·have hk1 : (k : Int) < (T.length : Int) := by omega
    obtain ⟨bb, off, hab, hd0⟩ := bool_at (HS3.out.below HO.out.below) hlt
    cases hab
    have HPS := hid (places_step hlt)
    have HPL : Hid ((placesL (T.take k)).length ≤ 51) := hid (by
     have h1 := places_len T k (by omega)
     have h2 := cnt_le (T.take k)
     rw [List.length_take] at h2
     have := HTL.out
     omega)
    generalize T[k] = q at hd0 HPS
    obtain ⟨a9, c9, hv9⟩ := HO.out.sl.val
    subst hv9
    cases q with
    | false =>
     have HN : Hid (Out w3 wb 3 1 (.slice a9 (placesL (T.take k)).length c9) (placesL (T.take (k + 1))).length ((placesL (T.take (k + 1))).map (.int .i64))) := hid (by
      rw [HPS.out, if_neg (by decide), List.append_nil]; exact HO.out)
     go_wp2_with fail
     go_roundw
     case rel => exact ⟨k + 1, by omega, by simp, HN⟩
     case measure => simp [intOf]; omega
    | true =>
     go_wp2_with (at_builtin; refine wpList_append_lit w3 wb _ rfl _ _ 30 rfl 3 _ 1 8 1 Tryz.underlying30 infoI rfl (by decide) _ _ _ HO.out rfl rfl rfl (by intro u hu; simp at hu; subst hu; rfl) (by have := HPL.out; omega) (by have := HPL.out; omega) ?_)
     intro v5 w5 ho5 hg5
     have HN : Hid (Out w3 w5 3 1 v5 (placesL (T.take (k + 1))).length ((placesL (T.take (k + 1))).map (.int .i64))) := hid (by
      rw [HPS.out]; simp only [if_true, List.length_append, List.map_append]; exact ho5)
     clear ho5 hg5
     go_wp2_with fail
     go_roundw
     case rel => exact ⟨k + 1, by omega, by simp, HN⟩
     case measure => simp [intOf]; omega
   ·obtain rfl : k = T.length := by omega
    have HN : Hid (Out w3 wb 3 1 u9 (placesL T).length ((placesL T).map (.int .i64))) := hid (by have := HO.out; rwa [List.take_length] at this)
    obtain ⟨a9, c9, hv9⟩ := HO.out.sl.val
    subst hv9
    clear HO hlt
    go_wp2
    go_ret2
    exact liveBy_ok H0.out HD.out (by rw [← HTB.out]; exact Out.since HB3.out HN.out)
 ·have HEV : Hid (errVal (rootsF l H R) = .iface 28 (.int .i64 (rootsF l H R))) := hid (by unfold errVal; rw [if_neg h0])
  have H0 := hid h0
  rw [HEV.out]
  clear h0
  go_wp2
  go_ret2
  exact liveBy_err H0.out HEV.out HB2.out
theorem zero_int (w : World) : (zeroValue 3).run Tryz.prog w = .ok (.int .i64 0) w := by kernel_rfl
structure PM (w : World) (bp bm : Nat) (S : List Bool) (k : Nat) : Prop where
 row : w.heap[bp]? = some (.cells #[.map (some bm)] 54 (0, 0))
 map : MapIs intKey w bm (placeM S k)
theorem mapis_lt {w : World} {b : Nat} {l : List (Int × Value)} (h : MapIs intKey w b l) : b < w.heap.size := by
 obtain ⟨es, c, h1, _⟩ := h
 exact (Array.getElem?_eq_some_iff.1 h1).1
theorem PM.later {w w' : World} {bp bm k : Nat} {S : List Bool} (h : PM w bp bm S k) (hb : Below w.heap.size w w') : PM w' bp bm S k :=
 ⟨(hb.block _ (Array.getElem?_eq_some_iff.1 h.row).1).trans h.row, map_keep intKey h.map (hb.block _ (mapis_lt h.map))⟩
theorem pm_look {w : World} {bp bm : Nat} {bs : List Bool} (h : PM w bp bm (false :: bs) (false :: bs).length) (z : Int) :
  (Instr.lookup 54 (.map (some bm)) (.int .i64 z) false).run Tryz.prog w = .ok (.int .i64 (rankOf (false :: bs) z.toNat)) w := by
 have := run_look (P := Tryz.prog) (E := intKey) Tryz.underlying54 Tryz.underlying3 h.map z (zero_int w)
 rw [show intKey.kv z = .int .i64 z from rfl, placeM_get] at this
 rw [this]
 by_cases hz : z < 0
 ·rw [if_pos hz, show z.toNat = 0 from by omega, rank_zero]
 ·rw [if_neg hz]
set_option maxRecDepth 100000 in
set_option maxHeartbeats 8000000 in
theorem moved_any (va : Value) (R : List Vl) (bp bm : Nat) (bs : List Bool) (w : World) (hR : Vls w va R) (hp : PM w bp bm (false :: bs) (false :: bs).length) (hn : R.length ≤ 2000000) :
  Calls Tryz.prog 20 #[va, .pointer (some ⟨bp, 0, none⟩)] w fun e w' => ∃ v, e = .returned v ∧ Out w w' 49 2 v R.length ((R.map (movedV (false :: bs))).flatMap Vl.cells) := by
 obtain ⟨ar, cr, rfl⟩ := hR.val
 have HR := hid hR; have HP := hid hp
 clear hR hp
 go_enter Tryz.func20, Tryz.ntmps20
 go_wp2_with fail
 go_loopw [4, 9] (fun v4 v9 wr => ∃ k : Nat, k ≤ R.length ∧ v9 = .int .i64 (k : Int) ∧ Hid (Out w wr 49 2 v4 k (((R.take k).map (movedV (false :: bs))).flatMap Vl.cells))) (fun _ v _ => R.length - (intOf v).toNat)
 case atStart => exact ⟨0, Nat.zero_le _, rfl, hid (by rw [List.take_zero]; exact Out.nil _ _ _)⟩
 case round =>
  obtain ⟨k, hk, rfl, HO⟩ := hrel
  obtain ⟨wb, hwb⟩ : ∃ wb, wb = wr := ⟨_, rfl⟩
  subst hwb
  have hk0 : (0 : Int) ≤ (k : Int) := by omega
  by_cases hlt : k < R.length
  ·have hk1 : (k : Int) < (R.length : Int) := by omega
   obtain ⟨bb, off, hab, hd0, hd1⟩ := vl_at (HR.out.below HO.out.below) hlt
   cases hab
   have HTS : Hid (((R.take (k + 1)).map (movedV (false :: bs))).flatMap Vl.cells = ((R.take k).map (movedV (false :: bs))).flatMap Vl.cells ++ Vl.cells (movedV (false :: bs) R[k])) := hid (by
    rw [List.take_succ_eq_append_getElem hlt, List.map_append, List.flatMap_append]; simp)
   generalize R[k] = x at hd0 hd1 HTS
   obtain ⟨vk, vn⟩ := x
   simp only at hd0 hd1
   obtain ⟨a4, c4, hv4⟩ := HO.out.sl.val
   subst hv4
   obtain ⟨bv, hbv⟩ : ∃ bv, wb.heap.size = bv := ⟨_, rfl⟩
   obtain ⟨W3, hW3⟩ : ∃ W3, wb.alloc (.cells #[.int .i64 vk, .int .i64 vn] 49) = W3 := ⟨_, rfl⟩
   have HBa : Hid (Below wb.heap.size wb W3) := hid (hW3 ▸ ext_alloc _ _)
   have HO3 := hid (HO.out.later HBa.out)
   have hr3 : W3.heap[bv]? = some (.cells #[.int .i64 vk, .int .i64 vn] 49 (0, 0)) := by rw [← hW3, ← hbv]; exact heap_alloc_new _ _
   have x0 : W3.cell? ⟨bv, 0, none⟩ = some (.int .i64 vk) := by rw [cell_of_row _ _ _ _ _ _ hr3]; rfl
   have x1 : W3.cell? ⟨bv, 1, none⟩ = some (.int .i64 vn) := by rw [cell_of_row _ _ _ _ _ _ hr3]; rfl
   have f1 : W3.frozen? ⟨bv, 1, none⟩ = false := frozen_of_row _ _ _ _ _ hr3
   have hp3 := HP.out.later HO3.out.below
   have xp : W3.cell? ⟨bp, 0, none⟩ = some (.map (some bm)) := by rw [cell_of_row _ _ _ _ _ _ hp3.row]; rfl
   have hlk := pm_look hp3 vn
   have HOW : Hid (w.heap.size ≤ bv) := hid (by have := HO.out.below.size; omega)
   by_cases h3 : vk = 3
   ·subst h3
    obtain ⟨W4, hW4⟩ : ∃ W4, W3.setCell ⟨bv, 1, none⟩ (.int .i64 (rankOf (false :: bs) vn.toNat)) = W4 := ⟨_, rfl⟩
    have HCV : Hid (Vl.cells (movedV (false :: bs) ⟨3, vn⟩) = [.int .i64 3, .int .i64 (rankOf (false :: bs) vn.toNat)]) := hid (by unfold movedV; simp [Vl.cells])
    have hr4 : W4.heap[bv]? = some (.cells #[.int .i64 3, .int .i64 (rankOf (false :: bs) vn.toNat)] 49 (0, 0)) := by rw [← hW4]; exact setCell_row hr3
    have y0 : W4.cell? ⟨bv, 0, none⟩ = some (.int .i64 3) := by rw [cell_of_row _ _ _ _ _ _ hr4]; rfl
    have y1 : W4.cell? ⟨bv, 1, none⟩ = some (.int .i64 (rankOf (false :: bs) vn.toNat)) := by rw [cell_of_row _ _ _ _ _ _ hr4]; rfl
    have HO4 : Hid (Out w W4 49 2 (.slice a4 k c4) k (((R.take k).map (movedV (false :: bs))).flatMap Vl.cells)) := hid (by
     refine ⟨HO3.out.own.kept (hW4 ▸ grown_set W3 ⟨bv, 1, none⟩ _) ?_, hW4 ▸ HO3.out.below.setCell HOW.out _⟩
     cases hv : (Value.slice a4 k c4).ownBlock with
     | none => exact .inl rfl
     | some q => exact .inr (fun he => by
       have h1 := (HO.out.own.lt q hv).2
       have h2 := Option.some.inj he
       simp only at h2
       omega))
    generalize rankOf (false :: bs) vn.toNat = rk at hlk hW4 HCV hr4 y1
    clear hr3 hr4 hp3 HO3
    go_wp2_with (at_builtin; refine wpList_append_lit w W4 _ rfl _ _ 26 rfl 49 _ 2 16 1 Tryz.underlying26 infoVl rfl (by decide) _ _ _ HO4.out rfl rfl rfl (by simp [Value.oneCell']) (by omega) (by omega) ?_)
    intro v5 w5 ho5 hg5
    have HN : Hid (Out w w5 49 2 v5 (k + 1) (((R.take (k + 1)).map (movedV (false :: bs))).flatMap Vl.cells)) := hid (by
     rw [HTS.out, HCV.out]; rw [← List.map_take] at ho5; exact ho5)
    clear ho5 hg5
    go_wp2_with fail
    go_roundw
    case rel => exact ⟨k + 1, by omega, by simp, HN⟩
    case measure => simp [intOf]; omega
   ·have HCV : Hid (Vl.cells (movedV (false :: bs) ⟨vk, vn⟩) = [.int .i64 vk, .int .i64 vn]) := hid (by unfold movedV; rw [if_neg h3]; rfl)
    have h4 : (vk == 3) = false := by simpa using h3
    clear hr3 hp3 hlk xp f1
    go_wp2_with (at_builtin; refine wpList_append_lit w W3 _ rfl _ _ 26 rfl 49 _ 2 16 1 Tryz.underlying26 infoVl rfl (by decide) _ _ _ HO3.out rfl rfl rfl (by simp [Value.oneCell']) (by omega) (by omega) ?_)
    intro v5 w5 ho5 hg5
    have HN : Hid (Out w w5 49 2 v5 (k + 1) (((R.take (k + 1)).map (movedV (false :: bs))).flatMap Vl.cells)) := hid (by
     rw [HTS.out, HCV.out]; rw [← List.map_take] at ho5; exact ho5)
    clear ho5 hg5
    go_wp2_with fail
    go_roundw
    case rel => exact ⟨k + 1, by omega, by simp, HN⟩
    case measure => simp [intOf]; omega
  ·obtain rfl : k = R.length := by omega
   have HN : Hid (Out w wb 49 2 u4 R.length ((R.map (movedV (false :: bs))).flatMap Vl.cells)) := hid (by have := HO.out; rwa [List.take_length] at this)
   obtain ⟨a9, c9, hv9⟩ := HO.out.sl.val
   subst hv9
   clear HO hlt
   go_wp2
   go_ret
   exact ⟨_, rfl, HN.out⟩
end Go.Proofs.YtlhobhnbgdicjaaGreatDoor.worlds
namespace Go.Proofs.YtlhobhnbgdicjaaGreatDoor.worlds
open Go.RowKit lib maps classes errs descs names grow ins
theorem map_type : (54 : TypeId) ≠ 25 := by decide
theorem thing_map : (42 : TypeId) ≠ 54 := by decide
theorem pm_grown {w1 w w' : World} {bp bm k n : Nat} {S : List Bool} {v : Value} {xs : List Value} (h : PM w bp bm S k) (ho : Out w1 w 42 2 v n xs) (hg : w.grownBy w' v.ownBlock) : PM w' bp bm S k := by
 refine ⟨row_grown ho h.row thing_map hg, map_keep intKey h.map (hg.block _ (mapis_lt h.map) fun he => ?_)⟩
 obtain ⟨es, c, h1, _⟩ := h.map
 rcases ho.own.2 with ⟨rfl, _⟩ | ⟨g, cap, cur, rfl, _, hgr, _⟩
 ·cases he
 ·simp only [Value.ownBlock, Option.some.injEq] at he
  subst he
  rw [h1] at hgr
  cases hgr
theorem pm_put {w : World} {bp bm k b : Nat} {S : List Bool} {c : Array Value} {x : Value} (h : PM w bp bm S k) (hb : w.heap[b]? = some (.cells c 25 (0, 0))) : PM (w.setCell ⟨b, 0, none⟩ x) bp bm S k := by
 refine ⟨?_, ?_⟩
 ·rw [setCell_other fun e => ?_]
  ·exact h.row
  ·subst e
   rw [h.row] at hb
   simp only [Option.some.injEq, Obj.cells.injEq] at hb
   exact map_type hb.2.1
 ·refine map_keep intKey h.map (setCell_other fun e => ?_)
  subst e
  obtain ⟨es, c, h1, _⟩ := h.map
  rw [h1] at hb
  cases hb
theorem sl_map {w w' : World} {bm n s : Nat} {v : Value} {xs : List Value} {l : List (Int × Value)} (h : Sl w v n s xs) (hm : MapIs intKey w bm l) (hg : w.grownBy w' (some bm)) : Sl w' v n s xs := by
 obtain ⟨es, cl, h1, _⟩ := hm
 obtain ⟨hl, a, c, rfl, hc, h⟩ := h
 refine ⟨hl, a, c, rfl, hc, ?_⟩
 rcases h with h | ⟨b, off, rfl, h⟩
 ·exact .inl h
 ·refine .inr ⟨b, off, rfl, fun j u hj => hg.cell (h j u hj) fun e => ?_⟩
  have := Option.some.inj e
  simp only at this
  subst this
  have h2 := h j u hj
  unfold World.cell? at h2
  rw [h1] at h2
  simp at h2
theorem row_map {w w' : World} {bm b : Nat} {c : Array Value} {t : TypeId} {l : List (Int × Value)} (h : w.heap[b]? = some (.cells c t (0, 0))) (hm : MapIs intKey w bm l) (hg : w.grownBy w' (some bm)) : w'.heap[b]? = some (.cells c t (0, 0)) := by
 obtain ⟨es, cl, h1, _⟩ := hm
 rw [hg.block b (Array.getElem?_eq_some_iff.1 h).1 fun e => ?_]
 ·exact h
 ·have := Option.some.inj e
  subst this
  rw [h1] at h
  cases h
theorem run_len_pm {w : World} {bm : Nat} {l : List (Int × Value)} (ty : TypeId) (h : MapIs intKey w bm l) : (Builtin.len_ #[54] ty #[.map (some bm)]).run Tryz.prog w = .ok (.int .i64 (l.length : Int)) w := by
 obtain ⟨es, cl, h1, h2⟩ := h
 have hs : es.size = l.length := by have := congrArg List.length h2; simpa using this
 simp [Builtin.len_, run_underlying Tryz.underlying54, MapKept.run_getObj_map h1, goInt, hs]
structure SW (w1 w : World) (b2 bp bm k : Nat) (vT : Value) (T : List Bool) : Prop where
 below : Below w1.heap.size w1 w
 r2 : w.heap[b2]? = some (.cells #[.slice none 0 0] 25 (0, 0))
 pm : PM w bp bm T k
 sl : Sl w vT T.length 1 (T.map .bool)
 le : w1.heap.size ≤ bm
theorem SW.yes {w1 w : World} {b2 bp bm k : Nat} {vT : Value} {T : List Bool} (h : SW w1 w b2 bp bm k vT T) (hk : k < T.length) (hb : T[k] = true) :
  ∃ w', (Instr.mapUpdate 54 (.map (some bm)) (.int .i64 (k : Int)) (.int .i64 ((cnt1 (T.take k) : Int) + 1))).run Tryz.prog w = .ok () w' ∧ SW w1 w' b2 bp bm (k + 1) vT T := by
 obtain ⟨w', h1, h2, h3⟩ := run_update (P := Tryz.prog) (E := intKey) Tryz.underlying54 Tryz.underlying3 h.pm.map (k : Int) (.int .i64 ((cnt1 (T.take k) : Int) + 1))
 refine ⟨w', h1, ⟨h.below.grown h3 h.below.size (fun q hq => by have := Option.some.inj hq; have := h.le; omega), row_map h.r2 h.pm.map h3, ⟨row_map h.pm.row h.pm.map h3, by rw [placeM_yes hk hb]; exact h2⟩, sl_map h.sl h.pm.map h3, h.le⟩⟩
theorem SW.no {w1 w : World} {b2 bp bm k : Nat} {vT : Value} {T : List Bool} (h : SW w1 w b2 bp bm k vT T) (hk : k < T.length) (hb : ¬ T[k] = true) : SW w1 w b2 bp bm (k + 1) vT T :=
 ⟨h.below, h.r2, ⟨h.pm.row, by rw [placeM_no hk hb]; exact h.pm.map⟩, h.sl, h.le⟩
theorem results_cell_three {P : Program} {fn : Func} {p q r : Tmp} {ty : TypeId} (h : fn.results = #[.cell p ty, .tmp q, .tmp r]) (tmps : Array Value) (w : World) (g : Nat) (cs : Array Value) (t : TypeId) (fr : Nat × Nat) (d : TypeDesc)
  (hp : tmps.getD p undef = .pointer (some ⟨g, 0, none⟩)) (hg : w.heap[g]? = some (.cells cs t fr)) (hu : P.underlying ty = some d) (hd : (match d with | .struct _ | .array _ _ => true | _ => false) = true) (hi : (P.info? ty).map (·.size) = some cs.size) :
  (results fn tmps).run P w = .ok (.tuple #[.agg cs, tmps.getD q undef, tmps.getD r undef]) w := by
 have hp' : tmps[p]?.getD undef = .pointer (some ⟨g, 0, none⟩) := by simpa using hp
 simp [results, h, hp', asAddr, run_loadVar_row w g t ty cs fr d hg hu hd hi]
def SweepBy (w : World) (l : List CV) (H : List Th) (R : List Vl) (e : Ending) (w' : World) : Prop :=
 if rootsF l H R = 0 then ∃ v vr L bs, e = .returned (.tuple #[.agg #[v], vr, .nilIface]) ∧ Done H R bs ∧ OwnTh w w' v L ∧ L.map bare = sweptH (false :: bs) H ∧ Out w w' 49 2 vr R.length ((R.map (movedV (false :: bs))).flatMap Vl.cells)
 else e = .returned (.tuple #[.agg #[.slice none 0 0], .slice none 0 0, errVal (rootsF l H R)]) ∧ Below w.heap.size w w'
theorem sweepBy_ok {w w' : World} {l : List CV} {H L : List Th} {R : List Vl} {v vr : Value} {bs : List Bool} (h0 : rootsF l H R = 0) (hd : Done H R bs) (ho : OwnTh w w' v L) (hL : L.map bare = sweptH (false :: bs) H)
  (hr : Out w w' 49 2 vr R.length ((R.map (movedV (false :: bs))).flatMap Vl.cells)) : SweepBy w l H R (.returned (.tuple #[.agg #[v], vr, .nilIface])) w' := by
 unfold SweepBy; rw [if_pos h0]; exact ⟨v, vr, L, bs, rfl, hd, ho, hL, hr⟩
theorem sweepBy_err {w w' : World} {l : List CV} {H : List Th} {R : List Vl} {v : Value} (h0 : ¬ rootsF l H R = 0) (hv : errVal (rootsF l H R) = v) (hb : Below w.heap.size w w') : SweepBy w l H R (.returned (.tuple #[.agg #[.slice none 0 0], .slice none 0 0, v])) w' := by
 unfold SweepBy; rw [if_neg h0, hv]; exact ⟨rfl, hb⟩
theorem row_cell2 {w' : World} {bx : Nat} {s0 s1 : Value} (h : w'.heap[bx]? = some (.cells #[s0, s1] 42 (0, 0))) : w'.cell? ⟨bx, 0, none⟩ = some s0 ∧ w'.cell? ⟨bx, 1, none⟩ = some s1 :=
 ⟨by rw [cell_of_row _ _ _ _ _ _ h]; rfl, by rw [cell_of_row _ _ _ _ _ _ h]; rfl⟩
set_option maxRecDepth 100000 in
set_option maxHeartbeats 16000000 in
theorem sweep_any (va vt vr : Value) (l : List CV) (H : List Th) (R : List Vl) (w : World) (hl : Clss w va l) (hf : FormsAt w) (hsm : ∀ c ∈ l, SmallC c) (hn : l.length ≤ 1048576) (hH : Ths w vt H) (hs : SmallH H) (hm : H.length ≤ 1048576) (hR : Vls w vr R) :
  Calls Tryz.prog 7 #[va, .agg #[vt], vr] w (SweepBy w l H R) := by
 obtain ⟨ah, ch, rfl⟩ := hH.sl.val
 obtain ⟨al, cl, rfl⟩ := hl.val
 obtain ⟨ar, cr, rfl⟩ := hR.val
 obtain ⟨b1, hb1⟩ : ∃ b1, w.heap.size = b1 := ⟨_, rfl⟩
 obtain ⟨w1, hw1⟩ : ∃ w1, w.alloc (.cells #[.slice ah H.length ch] 25) = w1 := ⟨_, rfl⟩
 have HB1 : Hid (Below w.heap.size w w1) := hid (hw1 ▸ ext_alloc _ _)
 have hr1 : w1.heap[b1]? = some (.cells #[.slice ah H.length ch] 25 (0, 0)) := by rw [← hw1, ← hb1]; exact heap_alloc_new _ _
 have hlt1 := (Array.getElem?_eq_some_iff.1 hr1).1
 have HX : Hid (∀ u, Below w1.heap.size w1 u → u.cell? ⟨b1, 0, none⟩ = some (.slice ah H.length ch)) := hid (fun u hu => by
  have h := (hu.block _ hlt1).trans hr1
  rw [cell_of_row _ _ _ _ _ _ h]; rfl)
 obtain ⟨b2, hb2⟩ : ∃ b2, w1.heap.size = b2 := ⟨_, rfl⟩
 obtain ⟨W2, hW2⟩ : ∃ W2, w1.alloc (.cells #[.slice none 0 0] 25) = W2 := ⟨_, rfl⟩
 have HB12 : Hid (Below w1.heap.size w1 W2) := hid (hW2 ▸ ext_alloc _ _)
 have HR2 : Hid (W2.heap[b2]? = some (.cells #[.slice none 0 0] 25 (0, 0))) := hid (by rw [← hW2, ← hb2]; exact heap_alloc_new _ _)
 have HB2 := hid (HB1.out.trans (HB12.out.mono HB1.out.size))
 have x0 := HX.out _ HB12.out
 have HRD := hid (sread_any _ _ _ l H R W2 (hl.below HB2.out) (hf.below HB2.out) hsm hn (hH.below HB2.out) hs hm (hR.below HB2.out))
 have HH := hid hH; have HR := hid hR; have HS := hid hs
 have hmm := @run_makeMap Tryz.prog
 have hmf : ∀ (fn : Fn) (first cap : Array Value) (w : World), (Instr.makeFunc fn first cap).run Tryz.prog w = .ok (.func fn first cap) w := fun _ _ _ _ => rfl
 have HB2L : Hid (w1.heap.size ≤ b2) := hid (by omega)
 clear hl hf hsm hn hH hs hR hr1
 go_enter Tryz.func7, Tryz.ntmps7
 go_wp2_with fail
 refine HRD.out.mono ?_
 rintro e w3 ⟨rfl, hb3⟩
 have H23 := hid hb3
 have HB13 := hid (HB12.out.trans (hb3.mono HB12.out.size))
 have HB3 := hid (HB2.out.trans (hb3.mono HB2.out.size))
 have HR3 : Hid (w3.heap[b2]? = some (.cells #[.slice none 0 0] 25 (0, 0))) := hid ((hb3.block _ (Array.getElem?_eq_some_iff.1 HR2.out).1).trans HR2.out)
 have x0 := HX.out _ HB13.out
 clear hb3
 by_cases h0 : rootsF l H R = 0
 ·have H0 := hid h0
  obtain ⟨hn50, hp, hrp, hrl⟩ := roots_ok h0
  have HHL : Hid (∀ x ∈ H, x.has.length ≤ 2000000) := hid (fun x hx => by have := (HS.out x hx).2; omega)
  have HRL : Hid (R.length ≤ 50) := hid hrl
  obtain ⟨bm, hbm⟩ : ∃ bm, w3.heap.size = bm := ⟨_, rfl⟩
  obtain ⟨M3, hM3⟩ : ∃ M3, w3.alloc (.map #[] 0) = M3 := ⟨_, rfl⟩
  obtain ⟨bp, hbp⟩ : ∃ bp, M3.heap.size = bp := ⟨_, rfl⟩
  obtain ⟨M4, hM4⟩ : ∃ M4, M3.alloc (.cells #[.map (some bm)] 54) = M4 := ⟨_, rfl⟩
  have HM34 : Hid (Below w3.heap.size w3 M4) := hid (by rw [← hM4, ← hM3]; exact (ext_alloc _ _).trans ((ext_alloc _ _).mono (ext_alloc _ _).size))
  have HPM : Hid (∀ S, PM M4 bp bm S 0) := hid (fun S => by
   refine ⟨by rw [← hM4, ← hbp]; exact heap_alloc_new _ _, ⟨#[], 0, ?_, rfl⟩⟩
   rw [← hM4]
   refine ((ext_alloc M3 _).block bm ?_).trans ?_
   ·rw [← hbm, ← hM3, World.size_alloc]; omega
   ·rw [← hM3, ← hbm]; exact heap_alloc_new _ _)
  have HM4 := hid (HB3.out.trans (HM34.out.mono HB3.out.size))
  have HM14 := hid (HB13.out.trans (HM34.out.mono HB13.out.size))
  have HBM : Hid (w1.heap.size ≤ bm) := hid (by have := HB13.out.size; omega)
  have HR4 : Hid (M4.heap[b2]? = some (.cells #[.slice none 0 0] 25 (0, 0))) := hid ((HM34.out.block _ (Array.getElem?_eq_some_iff.1 HR3.out).1).trans HR3.out)
  have HLV := hid (live_any _ _ H R M4 (HH.out.below HM4.out) (HR.out.below HM4.out) hp HHL.out hrp (by omega) hn50)
  have hmm3 := hmm 54 w3
  rw [hbm, hM3] at hmm3
  have x4 := HX.out _ HM14.out
  rw [h0, show errVal 0 = .nilIface from rfl]
  clear h0 hp hrp hmm
  go_wp2_with fail
  refine HLV.out.mono ?_
  rintro e w5 ⟨v3, T, rfl, hT, hs3, hb5⟩
  obtain ⟨bs, hTb, hD⟩ := marked_done hT
  have HDN := hid hD
  have HTB := hid hTb
  have HTL : Hid (T.length ≤ 51) := hid (by rw [hTb, List.length_cons, hD.len]; omega)
  have HBL : Hid (bs.length = H.length) := hid hD.len
  have hTl := HTL.out
  have HSW : Hid (SW w1 w5 b2 bp bm 0 v3 T) := hid ⟨HM14.out.trans (hb5.mono HM14.out.size), (hb5.block _ (Array.getElem?_eq_some_iff.1 HR4.out).1).trans HR4.out, (HPM.out T).later hb5, hs3, HBM.out⟩
  obtain ⟨a3, c3, rfl⟩ := hs3.val
  clear hT hs3 hb5 hTb hD x4 hmm3 hbm hM3 hbp hM4
  go_wp2_with fail
  go_loopw [30] (fun v30 wr => ∃ k : Nat, k ≤ T.length ∧ v30 = .int .i64 (k : Int) ∧ Hid (SW w1 wr b2 bp bm k (.slice a3 T.length c3) T)) (fun v _ => T.length - (intOf v).toNat)
  case atStart => exact ⟨0, Nat.zero_le _, rfl, HSW⟩
  case round =>
   obtain ⟨k, hk, rfl, HO⟩ := hrel
   clear HSW
   obtain ⟨wb, hwb⟩ : ∃ wb, wb = wr := ⟨_, rfl⟩
   subst hwb
   have hk0 : (0 : Int) ≤ (k : Int) := by omega
   by_cases hlt : k < T.length
   ·have hk1 : (k : Int) < (T.length : Int) := by omega
    obtain ⟨bb, off, hab, hd0⟩ := bool_at HO.out.sl hlt
    cases hab
    cases hq : T[k] with
    | false =>
     rw [hq] at hd0
     have HN := hid (HO.out.no hlt (by rw [hq]; decide))
     clear hq
     go_wp2_with fail
     go_roundw
     case rel => exact ⟨k + 1, by omega, by simp, HN⟩
     case measure => simp [intOf]; omega
    | true =>
     rw [hq] at hd0
     obtain ⟨w6, hrun, hsw⟩ := HO.out.yes hlt hq
     have HN := hid hsw
     have hln := fun ty => run_len_pm ty HO.out.pm.map
     rw [placeM_len (by omega)] at hln
     have hcl : cnt1 (T.take k) ≤ 51 := by
      have h2 := cnt_le (T.take k)
      rw [List.length_take] at h2
      omega
     have xp : wb.cell? ⟨bp, 0, none⟩ = some (.map (some bm)) := by rw [cell_of_row _ _ _ _ _ _ HO.out.pm.row]; rfl
     generalize cnt1 (T.take k) = cn at hrun hln hcl
     clear hq hsw
     go_wp2_with fail
     go_roundw
     case rel => exact ⟨k + 1, by omega, by simp, HN⟩
     case measure => simp [intOf]; omega
   ·obtain rfl : k = T.length := by omega
    have HPMb : Hid (PM wb bp bm (false :: bs) (false :: bs).length) := hid (by have := HO.out.pm; rwa [HTB.out] at this)
    have HBLb := hid HO.out.below
    have HR2b := hid HO.out.r2
    clear hlt HO HTB
    obtain ⟨b3, hb3⟩ : ∃ b3, wb.heap.size = b3 := ⟨_, rfl⟩
    obtain ⟨W7, hW7⟩ : ∃ W7, wb.alloc (.cells #[.slice none 0 0] 25) = W7 := ⟨_, rfl⟩
    have HB7 : Hid (Below wb.heap.size wb W7) := hid (hW7 ▸ ext_alloc _ _)
    have HB17 := hid (HBLb.out.trans (HB7.out.mono HBLb.out.size))
    have HT0 : Hid (TW w1 W7 b2 b3 (.slice none 0 0) []) := hid (by
     have h2 := (Array.getElem?_eq_some_iff.1 HR2b.out).1
     refine ⟨(OwnTh.nil w1).later HB17.out, by rw [← hW7, ← hb3]; exact heap_alloc_new _ _, (HB7.out.block _ h2).trans HR2b.out, HB2L.out, ?_, ?_⟩
     ·have := HBLb.out.size; omega
     ·omega)
    have HP0 := hid (HPMb.out.later HB7.out)
    have x7 := HX.out _ HB17.out
    have x8 := HX.out _ HBLb.out
    go_wp2_with fail
    go_loopw [46] (fun v46 wr => ∃ (k : Nat) (v : Value) (L : List Th), k ≤ H.length ∧ v46 = .int .i64 (k : Int) ∧ Hid (TW w1 wr b2 b3 v L) ∧ Hid (PM wr bp bm (false :: bs) (false :: bs).length) ∧ Hid (L.map bare = (keepB (bs.take k) (H.take k)).map (bareT (false :: bs)))) (fun v _ => H.length - (intOf v).toNat)
    case atStart => exact ⟨0, _, [], Nat.zero_le _, rfl, HT0, HP0, hid (by rw [List.take_zero, List.take_zero]; rfl)⟩
    case round =>
     obtain ⟨k, v, L, hk, rfl, HT, HP, HL⟩ := hrel
     clear HT0 HP0 x7 x8
     obtain ⟨wb, hwb⟩ : ∃ wb, wb = wr := ⟨_, rfl⟩
     subst hwb
     have hk0 : (0 : Int) ≤ (k : Int) := by omega
     obtain ⟨n, hnn⟩ : ∃ n, L.length = n := ⟨_, rfl⟩
     have HNN := hid hnn
     have HNL : Hid (n ≤ 50) := hid (by
      have h1 := congrArg List.length HL.out
      rw [List.length_map, List.length_map] at h1
      have h2 := keep_le (bs.take k) (H.take k)
      rw [List.length_take] at h2
      omega)
     obtain ⟨a3, c3, hv3⟩ := HT.out.own.own.sl.val
     rw [hnn] at hv3
     subst hv3
     clear hnn
     by_cases hlt : k < H.length
     ·have hk1 : (k : Int) < (H.length : Int) := by omega
      obtain ⟨hb, ho, hab, he0, he1⟩ := th_at (HH.out.below (HB1.out.trans (HT.out.own.own.below.mono HB1.out.size))) hlt
      subst hab
      have HVX0 := hid (HH.out.at_ _ (List.getElem_mem hlt))
      have HSX := hid (HS.out _ (List.getElem_mem hlt)).2
      have hltb : k < bs.length := by have := HBL.out; omega
      have HKS := hid (keep_step hltb hlt)
      generalize H[k] = x at he0 he1 HVX0 HSX HKS
      obtain ⟨ty, vh, has⟩ := x
      simp only at he0 he1 HSX
      obtain ⟨ax, cx, hvh⟩ := HVX0.out.val
      simp only at hvh
      subst hvh
      obtain ⟨bx, hbx⟩ : ∃ bx, wb.heap.size = bx := ⟨_, rfl⟩
      obtain ⟨W5, hW5⟩ : ∃ W5, wb.alloc (.cells #[.string ty, .slice ax has.length cx] 42) = W5 := ⟨_, rfl⟩
      have HBx : Hid (Below wb.heap.size wb W5) := hid (hW5 ▸ ext_alloc _ _)
      have HRX : Hid (W5.heap[bx]? = some (.cells #[.string ty, .slice ax has.length cx] 42 (0, 0))) := hid (by rw [← hW5, ← hbx]; exact heap_alloc_new _ _)
      have HT5 := hid (HT.out.later HBx.out)
      have HP5 := hid (HP.out.later HBx.out)
      have xp : W5.cell? ⟨bp, 0, none⟩ = some (.map (some bm)) := by rw [cell_of_row _ _ _ _ _ _ HP5.out.row]; rfl
      have hlk := pm_look HP5.out ((k : Int) + 1)
      rw [show ((k : Int) + 1).toNat = k + 1 from by omega] at hlk
      cases hq : bs[k] with
      | false =>
       rw [rank_no (by rw [List.getElem?_eq_getElem hltb, hq]; simp)] at hlk
       have HLN : Hid (L.map bare = (keepB (bs.take (k + 1)) (H.take (k + 1))).map (bareT (false :: bs))) := hid (by
        rw [HKS.out, hq, if_neg (by decide), List.append_nil]; exact HL.out)
       clear hq
       go_wp2_with fail
       go_roundw
       case rel => exact ⟨k + 1, _, _, by omega, by simp, HT5, HP5, HLN⟩
       case measure => simp [intOf]; omega
      | true =>
       rw [rank_yes (by rw [List.getElem?_eq_getElem hltb, hq])] at hlk
       have HLN : Hid (∀ v' : Value, (L ++ [(⟨ty, v', has.map (movedV (false :: bs))⟩ : Th)]).map bare = (keepB (bs.take (k + 1)) (H.take (k + 1))).map (bareT (false :: bs))) := hid (fun v' => by
        rw [HKS.out, hq, if_pos rfl, List.map_append, List.map_append, HL.out]; rfl)
       have hpos : (0 : Int) < (cnt1 (bs.take k) : Int) + 1 := by omega
       generalize (cnt1 (bs.take k) : Int) + 1 = rk at hlk hpos
       clear hq
       have HTD := hid (HT5.out.later (Below.refl _ _).drew)
       have HPD := hid (HP5.out.later (Below.refl _ _).drew)
       have HRXD : Hid (W5.drew.heap[bx]? = some (.cells #[.string ty, .slice ax has.length cx] 42 (0, 0))) := hid HRX.out
       obtain ⟨WD, hWD⟩ : ∃ WD, W5.drew = WD := ⟨_, rfl⟩
       rw [hWD] at HTD HPD HRXD
       have HDA : Hid (∀ u, Below WD.heap.size WD u → u.cell? ⟨b3, 0, none⟩ = some (.slice a3 n c3) ∧ u.cell? ⟨bx, 0, none⟩ = some (.string ty) ∧ u.cell? ⟨bx, 1, none⟩ = some (.slice ax has.length cx)) := hid (fun u hu => by
        have h3 := (HTD.out.later hu).r3
        have hx := (hu.block _ (Array.getElem?_eq_some_iff.1 HRXD.out).1).trans HRXD.out
        refine ⟨by rw [cell_of_row _ _ _ _ _ _ h3]; rfl, row_cell2 hx⟩)
       have HD := hid (HDA.out WD (Below.refl _ _))
       obtain ⟨x5, x6⟩ := row_cell2 HRX.out
       have HVX2 : Hid (Vls w (.slice ax has.length cx) has) := hid HVX0.out
       have HVX := hid (HVX2.out.below (HB1.out.trans (HTD.out.own.own.below.mono HB1.out.size)))
       have HOB : Hid (∀ g, (Value.slice a3 n c3).ownBlock = some g → g < bx) := hid (fun g hg => by have := (HT.out.own.own.own.lt g hg).2; omega)
       clear HVX0
       go_wp2_with fail
       refine wp_region_s (fun u => u.cell? ⟨b3, 0, none⟩ = some (.slice a3 n c3) ∧ u.cell? ⟨bx, 0, none⟩ = some (.string ty) ∧ u.cell? ⟨bx, 1, none⟩ = some (.slice ax has.length cx)) 12 (by kernel_rfl) ?_
       show grow.wpAnyS _ _ _ _ _ _ _ _ _ W5.drew
       rw [hWD]
       refine s_calc 0 _ _ rfl (by kernel_rfl) (by kernel_rfl) (by kernel_rfl) (by kernel_rfl) (by decide) rfl (fun c a' w' h => ⟨(putS_defers _ _ _).symm.trans h.1, h.2⟩) (fun _ => HD.out) (fun u => by go_simp; rfl) ?_
       simp only [List.getElem_toArray, List.getElem_cons_zero, List.getElem_cons_succ, Act.put, List.setIfInBounds_toArray, List.set_cons_zero, List.set_cons_succ]
       refine s_take 1 _ _ rfl (by kernel_rfl) (by kernel_rfl) (by kernel_rfl) (by kernel_rfl) (by kernel_rfl) (by decide) rfl (fun c a' w' h => ⟨(putS_defers _ _ _).symm.trans h.1, h.2⟩) (fun _ => HD.out) (fun u hu => by obtain ⟨r0, r1, r2⟩ := hu; go_simp; rfl) ?_
       simp only [List.getElem_toArray, List.getElem_cons_zero, List.getElem_cons_succ, Act.put, List.setIfInBounds_toArray, List.set_cons_zero, List.set_cons_succ]
       refine s_calc 2 _ _ rfl (by kernel_rfl) (by kernel_rfl) (by kernel_rfl) (by kernel_rfl) (by decide) rfl (fun c a' w' h => ⟨(putS_defers _ _ _).symm.trans h.1, h.2⟩) (fun _ => HD.out) (fun u => by go_simp; rfl) ?_
       simp only [List.getElem_toArray, List.getElem_cons_zero, List.getElem_cons_succ, Act.put, List.setIfInBounds_toArray, List.set_cons_zero, List.set_cons_succ]
       refine s_take 3 _ _ rfl (by kernel_rfl) (by kernel_rfl) (by kernel_rfl) (by kernel_rfl) (by kernel_rfl) (by decide) rfl (fun c a' w' h => ⟨(putS_defers _ _ _).symm.trans h.1, h.2⟩) (fun _ => HD.out) (fun u hu => by obtain ⟨r0, r1, r2⟩ := hu; go_simp; rfl) ?_
       simp only [List.getElem_toArray, List.getElem_cons_zero, List.getElem_cons_succ, Act.put, List.setIfInBounds_toArray, List.set_cons_zero, List.set_cons_succ]
       refine s_calc 4 _ _ rfl (by kernel_rfl) (by kernel_rfl) (by kernel_rfl) (by kernel_rfl) (by decide) rfl (fun c a' w' h => ⟨(putS_defers _ _ _).symm.trans h.1, h.2⟩) (fun _ => HD.out) (fun u => by go_simp; rfl) ?_
       simp only [List.getElem_toArray, List.getElem_cons_zero, List.getElem_cons_succ, Act.put, List.setIfInBounds_toArray, List.set_cons_zero, List.set_cons_succ]
       refine s_calc 5 _ _ rfl (by kernel_rfl) (by kernel_rfl) (by kernel_rfl) (by kernel_rfl) (by decide) rfl (fun c a' w' h => ⟨(putS_defers _ _ _).symm.trans h.1, h.2⟩) (fun _ => HD.out) (fun u => by go_simp; rfl) ?_
       simp only [List.getElem_toArray, List.getElem_cons_zero, List.getElem_cons_succ, Act.put, List.setIfInBounds_toArray, List.set_cons_zero, List.set_cons_succ]
       refine s_take 6 _ _ rfl (by kernel_rfl) (by kernel_rfl) (by kernel_rfl) (by kernel_rfl) (by kernel_rfl) (by decide) rfl (fun c a' w' h => ⟨(putS_defers _ _ _).symm.trans h.1, h.2⟩) (fun _ => HD.out) (fun u hu => by obtain ⟨r0, r1, r2⟩ := hu; go_simp; rfl) ?_
       simp only [List.getElem_toArray, List.getElem_cons_zero, List.getElem_cons_succ, Act.put, List.setIfInBounds_toArray, List.set_cons_zero, List.set_cons_succ]
       refine s_only 7 _ rfl (by kernel_rfl) ?_
       go_simp
       refine (moved_any _ has bp bm bs _ HVX.out HPD.out (by have := HSX.out; omega)).mono ?_
       rintro e w2' ⟨v2, rfl, ho2⟩
       have HB2' := hid ho2.below
       have HT2 := hid (HTD.out.later ho2.below)
       have HP2 := hid (HPD.out.later ho2.below)
       have HO2 := hid (Out.since HTD.out.own.own.below ho2)
       have HD2 : Hid (w2'.cell? ⟨b3, 0, none⟩ = some (.slice a3 n c3) ∧ w2'.cell? ⟨bx, 0, none⟩ = some (.string ty) ∧ w2'.cell? ⟨bx, 1, none⟩ = some (.slice ax has.length cx)) := hid (HDA.out w2' ho2.below)
       obtain ⟨av, cv, hv⟩ := ho2.sl.val
       subst hv
       clear ho2
       refine ⟨fun _ => HD2.out, ?_⟩
       try simp only [List.getElem_toArray, List.getElem_cons_zero, List.getElem_cons_succ, Act.put, List.setIfInBounds_toArray, List.set_cons_zero, List.set_cons_succ]
       refine s_calc 8 _ _ rfl (by kernel_rfl) (by kernel_rfl) (by kernel_rfl) (by kernel_rfl) (by decide) rfl (fun c a' w' h => ⟨(putS_defers _ _ _).symm.trans h.1, h.2⟩) (fun _ => HD2.out) (fun u => by go_simp; rfl) ?_
       simp only [List.getElem_toArray, List.getElem_cons_zero, List.getElem_cons_succ, Act.put, List.setIfInBounds_toArray, List.set_cons_zero, List.set_cons_succ]
       refine s_only 9 _ rfl (by kernel_rfl) ?_
       go_simp
       refine ⟨fun _ => HDA.out _ (HB2'.out.alloc HB2'.out.size _), ?_⟩
       try simp only [List.getElem_toArray, List.getElem_cons_zero, List.getElem_cons_succ, Act.put, List.setIfInBounds_toArray, List.set_cons_zero, List.set_cons_succ]
       refine s_only 10 _ rfl (by kernel_rfl) ?_
       have HTN : Hid (Out w1 w2' 42 2 (.slice a3 n c3) n (L.flatMap Th.cells)) := hid (by have := HT2.out.own.own; rwa [HNN.out] at this)
       have HRX2 : Hid (w2'.heap[bx]? = some (.cells #[.string ty, .slice ax has.length cx] 42 (0, 0))) := hid ((HB2'.out.block _ (Array.getElem?_eq_some_iff.1 HRXD.out).1).trans HRXD.out)
       refine step_append_out w1 w2' _ rfl _ _ 23 rfl 42 (.agg #[.string { data := #[] }, .slice none 0 0]) 2 40 1 Tryz.underlying23 infoTh rfl (by decide) _ _ _ HTN.out rfl rfl rfl ?_ (by have := HNL.out; omega) (by have := HNL.out; omega) ?_
       ·simp [Value.oneCell']
       intro v4 w4 ho4 hg4
       obtain ⟨hc4, hf4, hT4⟩ := HT2.out.step (x := ⟨ty, .slice av has.length cv, has.map (movedV (false :: bs))⟩) (by simpa using HO2.out) (by have := ho4; rw [← HNN.out] at this; exact this) hg4
       have HT4 := hid hT4
       have HP4 := hid (pm_put (pm_grown HP2.out HT2.out.own.own hg4) (row_grown HT2.out.own.own HT2.out.r3 thing_heap hg4) (x := v4))
       have HD4 := hid (by exact (⟨hc4, row_cell2 ((hg4.block bx (Array.getElem?_eq_some_iff.1 HRX2.out).1 (fun e => Nat.lt_irrefl _ (HOB.out bx e.symm))).trans HRX2.out)⟩ : w4.cell? ⟨b3, 0, none⟩ = some (.slice a3 n c3) ∧ w4.cell? ⟨bx, 0, none⟩ = some (.string ty) ∧ w4.cell? ⟨bx, 1, none⟩ = some (.slice ax has.length cx)))
       have HF4 := hid hf4
       obtain ⟨a4, c4, rfl⟩ := ho4.sl.val
       clear ho4 hg4 hT4
       refine ⟨fun _ => HD4.out, ?_⟩
       try simp only [List.getElem_toArray, List.getElem_cons_zero, List.getElem_cons_succ, Act.put, List.setIfInBounds_toArray, List.set_cons_zero, List.set_cons_succ]
       refine s_calc 11 _ _ rfl (by kernel_rfl) (by kernel_rfl) (by kernel_rfl) (by kernel_rfl) (by decide) rfl (fun c a' w' h => ⟨(putS_defers _ _ _).symm.trans h.1, h.2⟩) (fun _ => HD4.out) (fun u => by go_simp; rfl) ?_
       simp only [List.getElem_toArray, List.getElem_cons_zero, List.getElem_cons_succ, Act.put, List.setIfInBounds_toArray, List.set_cons_zero, List.set_cons_succ]
       refine s_only 12 _ rfl (by kernel_rfl) ?_
       go_simp
       refine ⟨fun h => absurd h (by decide), ?_⟩
       refine s_end (by kernel_rfl) ?_
       go_wp2_with fail
       go_roundw
       case rel => exact ⟨k + 1, _, _, by omega, by simp, HT4, HP4, hid (HLN.out _)⟩
       case measure => simp [intOf]; omega
     ·obtain rfl : k = H.length := by omega
      have HL2 : Hid (L.map bare = sweptH (false :: bs) H) := hid (by
       rw [HL.out, List.take_length, show bs.take H.length = bs from by rw [← HBL.out, List.take_length]]
       rfl)
      have HTD := hid (HT.out.later (Below.refl _ _).drew)
      have HPD := hid (HP.out.later (Below.refl _ _).drew)
      obtain ⟨WD, hWD⟩ : ∃ WD, wb.drew = WD := ⟨_, rfl⟩
      rw [hWD] at HTD HPD
      have HRD := hid (HR.out.below (HB1.out.trans (HTD.out.own.own.below.mono HB1.out.size)))
      have HD : Hid (WD.cell? ⟨b3, 0, none⟩ = some (.slice a3 n c3)) := hid (by rw [cell_of_row _ _ _ _ _ _ HTD.out.r3]; rfl)
      clear hlt
      go_wp2_with fail
      refine wp_region_s (fun u => u.cell? ⟨b3, 0, none⟩ = some (.slice a3 n c3)) 4 (by kernel_rfl) ?_
      show grow.wpAnyS _ _ _ _ _ _ _ _ _ wb.drew
      rw [hWD]
      refine s_take 0 _ _ rfl (by kernel_rfl) (by kernel_rfl) (by kernel_rfl) (by kernel_rfl) (by kernel_rfl) (by decide) rfl (fun c a' w' h => ⟨(putS_defers _ _ _).symm.trans h.1, h.2⟩) (fun _ => HD.out) (fun u hu => by go_simp; rfl) ?_
      simp only [List.getElem_toArray, List.getElem_cons_zero, List.getElem_cons_succ, Act.put, List.setIfInBounds_toArray, List.set_cons_zero, List.set_cons_succ]
      refine s_calc 1 _ _ rfl (by kernel_rfl) (by kernel_rfl) (by kernel_rfl) (by kernel_rfl) (by decide) rfl (fun c a' w' h => ⟨(putS_defers _ _ _).symm.trans h.1, h.2⟩) (fun _ => HD.out) (fun u => by go_simp; rfl) ?_
      simp only [List.getElem_toArray, List.getElem_cons_zero, List.getElem_cons_succ, Act.put, List.setIfInBounds_toArray, List.set_cons_zero, List.set_cons_succ]
      refine s_calc 2 _ _ rfl (by kernel_rfl) (by kernel_rfl) (by kernel_rfl) (by kernel_rfl) (by decide) rfl (fun c a' w' h => ⟨(putS_defers _ _ _).symm.trans h.1, h.2⟩) (fun _ => HD.out) (fun u => by go_simp; rfl) ?_
      simp only [List.getElem_toArray, List.getElem_cons_zero, List.getElem_cons_succ, Act.put, List.setIfInBounds_toArray, List.set_cons_zero, List.set_cons_succ]
      refine s_only 3 _ rfl (by kernel_rfl) ?_
      go_simp
      refine (moved_any _ R bp bm bs _ HRD.out HPD.out (by have := HRL.out; omega)).mono ?_
      rintro e w2' ⟨v2, rfl, ho2⟩
      have HT2 := hid (HTD.out.later ho2.below)
      have HO2 := hid (out_put_other (j := 0) (x := .slice a3 n c3) (Out.since HTD.out.own.own.below ho2) HT2.out.r2 value_heap HT2.out.le2)
      have HT3 := hid (HT2.out.own.put (x := .slice a3 n c3) HT2.out.r2 HT2.out.le2)
      have HR2 := hid (setCell_row (j := 0) (x := .slice a3 n c3) HT2.out.r2)
      have hq2 : w2'.cell? ⟨b2, 0, none⟩ = some (.slice none 0 0) := by rw [cell_of_row _ _ _ _ _ _ HT2.out.r2]; rfl
      have hf2 : w2'.frozen? ⟨b2, 0, none⟩ = false := frozen_of_row _ _ _ _ _ HT2.out.r2
      have HD2 : Hid (w2'.cell? ⟨b3, 0, none⟩ = some (.slice a3 n c3)) := hid (by rw [cell_of_row _ _ _ _ _ _ HT2.out.r3]; rfl)
      obtain ⟨av, cv, hv⟩ := ho2.sl.val
      subst hv
      clear ho2
      refine ⟨fun _ => HD2.out, ?_⟩
      try simp only [List.getElem_toArray, List.getElem_cons_zero, List.getElem_cons_succ, Act.put, List.setIfInBounds_toArray, List.set_cons_zero, List.set_cons_succ]
      refine s_only 4 _ rfl (by kernel_rfl) ?_
      go_simp
      refine ⟨fun h => absurd h (by decide), ?_⟩
      try simp only [List.getElem_toArray, List.getElem_cons_zero, List.getElem_cons_succ, Act.put, List.setIfInBounds_toArray, List.set_cons_zero, List.set_cons_succ]
      refine s_calc 5 _ _ rfl (by kernel_rfl) (by kernel_rfl) (by kernel_rfl) (by kernel_rfl) (by decide) rfl (fun c a' w' h => ⟨(putS_defers _ _ _).symm.trans h.1, h.2⟩) (fun h => absurd h (by decide)) (fun u => by go_simp; rfl) ?_
      simp only [List.getElem_toArray, List.getElem_cons_zero, List.getElem_cons_succ, Act.put, List.setIfInBounds_toArray, List.set_cons_zero, List.set_cons_succ]
      refine s_calc 6 _ _ rfl (by kernel_rfl) (by kernel_rfl) (by kernel_rfl) (by kernel_rfl) (by decide) rfl (fun c a' w' h => ⟨(putS_defers _ _ _).symm.trans h.1, h.2⟩) (fun h => absurd h (by decide)) (fun u => by go_simp; rfl) ?_
      simp only [List.getElem_toArray, List.getElem_cons_zero, List.getElem_cons_succ, Act.put, List.setIfInBounds_toArray, List.set_cons_zero, List.set_cons_succ]
      refine s_end (by kernel_rfl) ?_
      go_wp2
      try simp only [Exit.inBlock, Exit.then]
      refine bodyPost_ret (results_cell_three rfl _ _ b2 _ _ _ _ rfl HR2.out Tryz.underlying25 rfl (by kernel_rfl)) rfl ?_
      exact sweepBy_ok H0.out HDN.out (OwnTh.since HB1.out HT3.out) HL2.out (Out.since HB1.out HO2.out)
 ·have HEV : Hid (errVal (rootsF l H R) = .iface 28 (.int .i64 (rootsF l H R))) := hid (by unfold errVal; rw [if_neg h0])
  have H0 := hid h0
  have hq2 : w3.cell? ⟨b2, 0, none⟩ = some (.slice none 0 0) := by rw [cell_of_row _ _ _ _ _ _ HR3.out]; rfl
  have hf2 : w3.frozen? ⟨b2, 0, none⟩ = false := frozen_of_row _ _ _ _ _ HR3.out
  have HRE := hid (setCell_row (j := 0) (x := .slice none 0 0) HR3.out)
  have HBE : Hid (Below w.heap.size w (w3.setCell ⟨b2, 0, none⟩ (.slice none 0 0))) := hid (HB3.out.setCell (by show w.heap.size ≤ b2; have := HB2L.out; have := HB1.out.size; omega) _)
  rw [HEV.out]
  clear h0
  go_wp2
  try simp only [Exit.inBlock, Exit.then]
  refine bodyPost_ret (results_cell_three rfl _ _ b2 _ _ _ _ rfl HRE.out Tryz.underlying25 rfl (by kernel_rfl)) rfl ?_
  exact sweepBy_err H0.out HEV.out HBE.out
end Go.Proofs.YtlhobhnbgdicjaaGreatDoor.worlds
namespace Go.Proofs.YtlhobhnbgdicjaaGreatDoor.worlds
open Go.RowKit lib maps classes errs descs names grow ins
theorem bare_get {G H : List Th} (h : G.map bare = H.map bare) {p : Nat} {x : Th} (hx : G[p]? = some x) : ∃ y, H[p]? = some y ∧ y.ty = x.ty ∧ y.has = x.has := by
 have e : (G.map bare)[p]? = (H.map bare)[p]? := by rw [h]
 rw [List.getElem?_map, List.getElem?_map, hx] at e
 cases hy : H[p]? with
 | none => rw [hy] at e; cases e
 | some y =>
  rw [hy] at e
  simp only [Option.map_some, Option.some.injEq, bare, Th.mk.injEq, true_and] at e
  exact ⟨y, rfl, e.1.symm, e.2.symm⟩
theorem swept_bare (T : List Bool) (H : List Th) : (sweptH T H).map bare = sweptH T H := by
 unfold sweptH; rw [List.map_map]; rfl
theorem small_same {G H : List Th} (h : G.map bare = H.map bare) (hs : SmallH H) : SmallH G := fun x hx => by
 obtain ⟨p, hp, rfl⟩ := List.getElem_of_mem hx
 obtain ⟨y, hy, ht, hh⟩ := bare_get h (List.getElem?_eq_getElem hp)
 rw [← ht, ← hh]
 exact hs y (List.mem_of_getElem? hy)
theorem small_swept {H : List Th} (bs : List Bool) (hs : SmallH H) : SmallH (sweptH (false :: bs) H) := fun y hy => by
 obtain ⟨i, x, _, hx, rfl⟩ := swept_mem hy
 have := hs x (List.mem_of_getElem? hx)
 unfold bareT
 simp only [List.length_map]
 exact this
set_option maxRecDepth 100000 in
set_option maxHeartbeats 4000000 in
theorem places_any (v : Value) (S : List Bool) (w : World) (hS : Sl w v S.length 1 (S.map .bool)) (hn : S.length ≤ 1000000) :
  Calls Tryz.prog 9 #[v] w fun e w' => ∃ v', e = .returned v' ∧ Out w w' 3 1 v' (placesL S).length ((placesL S).map (.int .i64)) := by
 obtain ⟨a3, c3, rfl⟩ := hS.val
 have HS := hid hS
 clear hS
 go_enter Tryz.func9, Tryz.ntmps9
 go_wp2_with fail
 go_loopw [3, 4] (fun v3 v4 wr => ∃ k : Nat, k ≤ S.length ∧ v4 = .int .i64 (k : Int) ∧ Hid (Out w wr 3 1 v3 (placesL (S.take k)).length ((placesL (S.take k)).map (.int .i64)))) (fun _ v _ => S.length - (intOf v).toNat)
 case atStart => exact ⟨0, Nat.zero_le _, rfl, hid (by rw [List.take_zero]; exact Out.nil _ _ _)⟩
 case round =>
  obtain ⟨k, hk, rfl, HO⟩ := hrel
  obtain ⟨wb, hwb⟩ : ∃ wb, wb = wr := ⟨_, rfl⟩
  subst hwb
  have hk0 : (0 : Int) ≤ (k : Int) := by omega
  by_cases hlt : k < S.length
  ·have hk1 : (k : Int) < (S.length : Int) := by omega
   obtain ⟨bb, off, hab, hd0⟩ := bool_at (HS.out.below HO.out.below) hlt
   cases hab
   have HPS := hid (places_step hlt)
   have HPL : Hid ((placesL (S.take k)).length ≤ 1000000) := hid (by
    have h1 := places_len S k (by omega)
    have h2 := cnt_le (S.take k)
    rw [List.length_take] at h2
    omega)
   generalize S[k] = q at hd0 HPS
   obtain ⟨a9, c9, hv9⟩ := HO.out.sl.val
   subst hv9
   cases q with
   | false =>
    have HN : Hid (Out w wb 3 1 (.slice a9 (placesL (S.take k)).length c9) (placesL (S.take (k + 1))).length ((placesL (S.take (k + 1))).map (.int .i64))) := hid (by
     rw [HPS.out, if_neg (by decide), List.append_nil]; exact HO.out)
    go_wp2_with fail
    go_roundw
    case rel => exact ⟨k + 1, by omega, by simp, HN⟩
    case measure => simp [intOf]; omega
   | true =>
    go_wp2_with (at_builtin; refine wpList_append_lit w wb _ rfl _ _ 30 rfl 3 _ 1 8 1 Tryz.underlying30 infoI rfl (by decide) _ _ _ HO.out rfl rfl rfl (by intro u hu; simp at hu; subst hu; rfl) (by have := HPL.out; omega) (by have := HPL.out; omega) ?_)
    intro v5 w5 ho5 hg5
    have HN : Hid (Out w w5 3 1 v5 (placesL (S.take (k + 1))).length ((placesL (S.take (k + 1))).map (.int .i64))) := hid (by
     rw [HPS.out]; simp only [if_true, List.length_append, List.map_append]; exact ho5)
    clear ho5 hg5
    go_wp2_with fail
    go_roundw
    case rel => exact ⟨k + 1, by omega, by simp, HN⟩
    case measure => simp [intOf]; omega
  ·obtain rfl : k = S.length := by omega
   have HN : Hid (Out w wb 3 1 u3 (placesL S).length ((placesL S).map (.int .i64))) := hid (by have := HO.out; rwa [List.take_length] at this)
   obtain ⟨a9, c9, hv9⟩ := HO.out.sl.val
   subst hv9
   clear HO hlt
   go_wp2
   go_ret
   exact ⟨_, rfl, HN.out⟩
def objS : ByteArray := { data := #[76, 79, 98, 106, 101, 99, 116, 59] }
def twoH : List Th := [⟨objS, .slice none 0 0, []⟩, ⟨objS, .slice none 0 0, []⟩]
theorem two_roots : rootsF [] twoH [⟨3, 2⟩] = 0 := by decide +kernel
theorem two_done {bs : List Bool} (hd : Done twoH [⟨3, 2⟩] bs) : bs = [false, true] := by
 have hl := hd.len
 have hno : ∀ i, Marks twoH [⟨3, 2⟩] i → i = 2 := fun i h => by
  cases h with
  | root hv hl => rw [List.mem_singleton.1 hv]; rfl
  | step _ hx hv hl =>
   have hm := List.mem_of_getElem? hx
   have : ∀ x ∈ twoH, x.has = [] := by
    intro x hx
    rcases List.mem_cons.1 hx with rfl | hx
    ·rfl
    ·rw [List.mem_singleton.1 hx]
   rw [this _ hm] at hv
   cases hv
 match bs, hl with
 | [b0, b1], _ =>
  have h1 : b1 = true := by
   have h := (hd.is 1).2 (.root (v := ⟨3, 2⟩) (List.mem_singleton_self _) ⟨rfl, by decide⟩)
   simpa using h
  have h0 : b0 = false := by
   cases b0 with
   | false => rfl
   | true => exact absurd (hno 1 ((hd.is 0).1 rfl)) (by decide)
  rw [h0, h1]
set_option maxRecDepth 100000 in
set_option maxHeartbeats 4000000 in
theorem swept_any (w : World) (hf : FormsAt w) : Calls Tryz.prog 4 #[] w fun e w' => e = .returned (.bool true) ∧ Below w.heap.size w w' := by
 obtain ⟨g0, hg0⟩ : ∃ g0, w.heap.size = g0 := ⟨_, rfl⟩
 obtain ⟨W1, hW1⟩ : ∃ W1, w.alloc (.cells #[.string { data := #[76, 79, 98, 106, 101, 99, 116, 59] }, .slice none 0 0, .string { data := #[76, 79, 98, 106, 101, 99, 116, 59] }, .slice none 0 0] 42) = W1 := ⟨_, rfl⟩
 obtain ⟨g1, hg1⟩ : ∃ g1, W1.heap.size = g1 := ⟨_, rfl⟩
 obtain ⟨W2, hW2⟩ : ∃ W2, W1.alloc (.cells #[.slice (some ⟨g0, 0, none⟩) 2 2] 25) = W2 := ⟨_, rfl⟩
 obtain ⟨g2, hg2⟩ : ∃ g2, W2.heap.size = g2 := ⟨_, rfl⟩
 obtain ⟨W3, hW3⟩ : ∃ W3, W2.alloc (.cells #[.int .i64 3, .int .i64 2] 49) = W3 := ⟨_, rfl⟩
 have HB1 : Hid (Below w.heap.size w W1) := hid (hW1 ▸ ext_alloc _ _)
 have HB12 : Hid (Below W1.heap.size W1 W2) := hid (hW2 ▸ ext_alloc _ _)
 have HB23 : Hid (Below W2.heap.size W2 W3) := hid (hW3 ▸ ext_alloc _ _)
 have HB13 := hid (HB12.out.trans (HB23.out.mono HB12.out.size))
 have HB3 := hid (HB1.out.trans (HB13.out.mono HB1.out.size))
 have HS1 : Hid (Ths W3 (.slice (some ⟨g0, 0, none⟩) 2 2) twoH) := hid (by
  have h := (Sl.lit w #[.string { data := #[76, 79, 98, 106, 101, 99, 116, 59] }, .slice none 0 0, .string { data := #[76, 79, 98, 106, 101, 99, 116, 59] }, .slice none 0 0] 42 2 2 rfl)
  rw [hg0, hW1] at h
  refine ⟨h.below HB13.out, fun x hx => ?_⟩
  rcases List.mem_cons.1 hx with rfl | hx
  ·exact slN _ 2
  ·rw [List.mem_singleton.1 hx]; exact slN _ 2)
 have HS3 : Hid (Vls W3 (.slice (some ⟨g2, 0, none⟩) 1 1) [⟨3, 2⟩]) := hid (by
  have h := (Sl.lit W2 #[.int .i64 3, .int .i64 2] 49 1 2 rfl)
  rw [hg2, hW3] at h
  exact h)
 have hr2 : W2.heap[g1]? = some (.cells #[.slice (some ⟨g0, 0, none⟩) 2 2] 25 (0, 0)) := by rw [← hW2, ← hg1]; exact heap_alloc_new _ _
 have x0 : W2.cell? ⟨g1, 0, none⟩ = some (.slice (some ⟨g0, 0, none⟩) 2 2) := by rw [cell_of_row _ _ _ _ _ _ hr2]; rfl
 have HSW := hid (sweep_any (.slice none 0 0) (.slice (some ⟨g0, 0, none⟩) 2 2) (.slice (some ⟨g2, 0, none⟩) 1 1) [] twoH [⟨3, 2⟩] W3 ⟨slN _ 6, fun _ h => absurd h List.not_mem_nil⟩ (hf.below HB3.out) (fun _ h => absurd h List.not_mem_nil) (by decide) HS1.out (fun x hx => by
  rcases List.mem_cons.1 hx with rfl | hx
  ·decide
  ·rw [List.mem_singleton.1 hx]; decide) (by decide) HS3.out)
 clear hr2 hf
 go_enter Tryz.func4, Tryz.ntmps4
 go_wp2_with fail
 refine HSW.out.mono ?_
 intro e w4 h4
 unfold SweepBy at h4
 rw [if_pos two_roots] at h4
 obtain ⟨v, vr, L, bs, rfl, hd, ho, hL, hr⟩ := h4
 have hbs := two_done hd
 subst hbs
 have hl1 : L.length = 1 := by have := congrArg List.length hL; rw [List.length_map] at this; rw [this]; decide
 have hv := ho.own.sl.val
 rw [hl1] at hv
 obtain ⟨av, cv, rfl⟩ := hv
 have hrm : ([⟨3, 2⟩] : List Vl).map (movedV [false, false, true]) = [⟨3, 1⟩] := by
  have hrk : rankOf [false, false, true] (2 : Int).toNat = 1 := by decide
  show [movedV [false, false, true] ⟨3, 2⟩] = _
  unfold movedV
  rw [if_pos rfl, hrk]
 rw [hrm] at hr
 have hrs : Vls w4 vr [⟨3, 1⟩] := hr.sl
 obtain ⟨ar, cr, hvr⟩ := hrs.val
 subst hvr
 obtain ⟨bb, off, hab, hd0, hd1⟩ := vl_at hrs (k := 0) (by decide)
 cases hab
 simp only [List.getElem_cons_zero, Nat.zero_mul, Nat.add_zero, List.length_singleton] at hd0 hd1
 have HB4 := hid (HB3.out.trans (hr.below.mono HB3.out.size))
 have HD1 := hid hd1
 have hd1b : (w4.alloc (.cells #[.slice av 1 cv] 25)).cell? ⟨bb, off + 1, none⟩ = some (.int .i64 1) := ((ext_alloc w4 _).cell (World.block_lt_of_cell? _ _ hd1)).trans hd1
 clear ho hr hrs hL hd hd0
 go_wp2
 go_ret
 exact ⟨by first | rfl | simp, HB4.out.alloc HB4.out.size _⟩
end Go.Proofs.YtlhobhnbgdicjaaGreatDoor.worlds
