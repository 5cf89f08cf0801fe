/- Worlds of classes, in plain words. No condition. -/
import Derived.Test.YtloonnfelgokmaaGreatDoorZCls1
import Derived.Test.YtloonnfelgokmaaGreatDoorZMap
import Derived.Test.YtloonnfelgokmaaGreatDoorZDescZ
set_option maxRecDepth 100000
set_option maxHeartbeats 16000000
set_option linter.unusedSimpArgs false
set_option linter.unusedVariables false
namespace Go.Proofs.YtloonnfelgokmaaGreatDoor.worlds
open Go.RowKit lib maps classes
abbrev WL := List (ByteArray × CV)
def noB : ByteArray := { data := #[] }
def zeroC : CV := { nm := noB, sup := noB, vf := .slice none 0 0, face := false, vd := .slice none 0 0, vm := .slice none 0 0, faces := [], fields := [], mets := [] }
def cAt (W : WL) (n : ByteArray) : CV := (getK W n).getD zeroC
def aboveC (c : CV) : List ByteArray := if c.sup = noB then c.faces else c.sup :: c.faces
def above (W : WL) (n : ByteArray) : List ByteArray := aboveC (cAt W n)
def addAll (out : List ByteArray) : List ByteArray → List ByteArray
 | [] => out
 | a :: r => addAll (if inTexts a out = true then out else out ++ [a]) r
theorem add_pre (l : List ByteArray) : ∀ out, ∃ r, addAll out l = out ++ r := by
 induction l with
 | nil => intro out; exact ⟨[], by simp [addAll]⟩
 | cons a l ih =>
  intro out
  simp only [addAll]
  split
  ·exact ih out
  ·obtain ⟨r, h⟩ := ih (out ++ [a])
   exact ⟨[a] ++ r, by rw [h]; simp⟩
theorem mem_add (l : List ByteArray) : ∀ (out : List ByteArray) (x : ByteArray), x ∈ addAll out l ↔ x ∈ out ∨ x ∈ l := by
 induction l with
 | nil => intro out x; simp [addAll]
 | cons a l ih =>
  intro out x
  simp only [addAll]
  rw [ih]
  by_cases h : inTexts a out = true
  ·rw [if_pos h]
   have := inT_mem.1 h
   simp only [List.mem_cons]
   constructor
   ·rintro (h | h)
    ·exact .inl h
    ·exact .inr (.inr h)
   ·rintro (h | rfl | h)
    ·exact .inl h
    ·exact .inl this
    ·exact .inr h
  ·rw [if_neg h]
   simp only [List.mem_append, List.mem_cons, List.not_mem_nil, or_false]
   constructor
   ·rintro ((h | h) | h)
    ·exact .inl h
    ·exact .inr (.inl h)
    ·exact .inr (.inr h)
   ·rintro (h | h | h)
    ·exact .inl (.inl h)
    ·exact .inl (.inr h)
    ·exact .inr h
theorem nodup_add (l : List ByteArray) : ∀ out : List ByteArray, out.Nodup → (addAll out l).Nodup := by
 induction l with
 | nil => intro out h; exact h
 | cons a l ih =>
  intro out h
  simp only [addAll]
  apply ih
  by_cases ha : inTexts a out = true
  ·rw [if_pos ha]; exact h
  ·rw [if_neg ha]
   have hna : a ∉ out := fun hm => ha (inT_mem.2 hm)
   exact List.nodup_append.2 ⟨h, by simp, fun x hx y hy => by
    obtain rfl := List.mem_singleton.1 hy
    intro e; subst e; exact hna hx⟩
def rounds (W : WL) (n : ByteArray) : Nat → List ByteArray
 | 0 => [n]
 | i + 1 => match (rounds W n i)[i]? with
  | some a => addAll (rounds W n i) (above W a)
  | none => rounds W n i
theorem rounds_step {W : WL} {n : ByteArray} {i : Nat} (h : i < (rounds W n i).length) : rounds W n (i + 1) = addAll (rounds W n i) (above W (rounds W n i)[i]) := by
 rw [rounds, List.getElem?_eq_getElem h]
theorem rounds_stay {W : WL} {n : ByteArray} {i : Nat} (h : (rounds W n i).length ≤ i) : ∀ k, rounds W n (i + k) = rounds W n i
 | 0 => rfl
 | k + 1 => by
  have ih := rounds_stay h k
  rw [← Nat.add_assoc, rounds, ih, List.getElem?_eq_none (by omega)]
theorem rounds_nodup (W : WL) (n : ByteArray) : ∀ i, (rounds W n i).Nodup
 | 0 => by simp [rounds]
 | i + 1 => by
  have ih := rounds_nodup W n i
  rw [rounds]
  split
  ·exact nodup_add _ _ ih
  ·exact ih
theorem rounds_len (W : WL) (n : ByteArray) : ∀ i, 1 ≤ (rounds W n i).length
 | 0 => by simp [rounds]
 | i + 1 => by
  have ih := rounds_len W n i
  rw [rounds]
  split
  ·obtain ⟨r, h⟩ := add_pre (above W _) (rounds W n i)
   rw [h, List.length_append]; omega
  ·exact ih
theorem rounds_pre (W : WL) (n : ByteArray) (i : Nat) : ∀ k, ∃ r, rounds W n (i + k) = rounds W n i ++ r
 | 0 => ⟨[], by simp⟩
 | k + 1 => by
  obtain ⟨r, h⟩ := rounds_pre W n i k
  rw [← Nat.add_assoc, rounds]
  split
  ·obtain ⟨s, h2⟩ := add_pre (above W _) (rounds W n (i + k))
   exact ⟨r ++ s, by rw [h2, h, List.append_assoc]⟩
  ·exact ⟨r, h⟩
inductive Up (W : WL) (n : ByteArray) : ByteArray → Prop
 | self : Up W n n
 | step {a b : ByteArray} : Up W n a → b ∈ above W a → Up W n b
theorem Up.trans {W : WL} {n a b : ByteArray} (h : Up W n a) (k : Up W a b) : Up W n b := by
 induction k with
 | self => exact h
 | step _ hb ih => exact .step ih hb
theorem rounds_up (W : WL) (n : ByteArray) : ∀ i, ∀ x ∈ rounds W n i, Up W n x
 | 0, x, h => by
  obtain rfl := List.mem_singleton.1 h
  exact .self
 | i + 1, x, h => by
  have ih := rounds_up W n i
  rw [rounds] at h
  split at h
  ·rename_i a ha
   rcases (mem_add _ _ _).1 h with h | h
   ·exact ih x h
   ·exact .step (ih a (List.mem_of_getElem? ha)) h
  ·exact ih x h
theorem rounds_above (W : WL) (n : ByteArray) : ∀ i k, k < i → ∀ a, (rounds W n i)[k]? = some a → ∀ b ∈ above W a, b ∈ rounds W n i
 | 0, k, h, _, _, _, _ => absurd h (Nat.not_lt_zero _)
 | i + 1, k, h, a, ha, b, hb => by
  obtain ⟨r, hr⟩ := rounds_pre W n i 1
  by_cases hk : k < i
  ·by_cases hl : k < (rounds W n i).length
   ·rw [hr, List.getElem?_append_left hl] at ha
    rw [hr]
    exact List.mem_append_left _ (rounds_above W n i k hk a ha b hb)
   ·have : rounds W n (i + 1) = rounds W n i := rounds_stay (by omega) 1
    rw [this, List.getElem?_eq_none (by omega)] at ha
    cases ha
  ·obtain rfl : k = i := by omega
   by_cases hl : k < (rounds W n k).length
   ·have e := rounds_step hl
    rw [e]
    rw [hr, List.getElem?_append_left hl, List.getElem?_eq_getElem hl] at ha
    cases ha
    exact (mem_add _ _ _).2 (.inr hb)
   ·have : rounds W n (k + 1) = rounds W n k := rounds_stay (by omega) 1
    rw [this, List.getElem?_eq_none (by omega)] at ha
    cases ha
def names (W : WL) : List ByteArray := W.flatMap fun p => aboveC p.2
theorem above_names {W : WL} {a b : ByteArray} (h : b ∈ above W a) : b ∈ names W := by
 unfold above cAt at h
 cases hg : getK W a with
 | none => rw [hg] at h; simp [zeroC, aboveC] at h
 | some c =>
  rw [hg] at h
  exact List.mem_flatMap.2 ⟨(a, c), getK_mem hg, h⟩
theorem up_names {W : WL} {n a : ByteArray} (h : Up W n a) : a = n ∨ a ∈ names W := by
 cases h with
 | self => exact .inl rfl
 | step _ hb => exact .inr (above_names hb)
theorem nodup_le {l m : List ByteArray} (h : l.Nodup) (hs : ∀ x ∈ l, x ∈ m) : l.length ≤ m.length := by
 induction l generalizing m with
 | nil => simp
 | cons a l ih =>
  obtain ⟨h1, h2⟩ := List.nodup_cons.1 h
  have hm := hs a (List.mem_cons_self ..)
  have h3 : l.length ≤ (m.filter fun y => decide (y ≠ a)).length := ih h2 (fun x hx => List.mem_filter.2 ⟨hs x (List.mem_cons_of_mem _ hx), by
   simp only [decide_eq_true_eq]; intro e; subst e; exact h1 hx⟩)
  have h4 : (m.filter fun y => decide (y ≠ a)).length < m.length := List.length_filter_lt_length_iff_exists.2 ⟨a, hm, by simp⟩
  simp only [List.length_cons]
  omega
def most (W : WL) : Nat := (names W).length + 1
theorem rounds_most (W : WL) (n : ByteArray) (i : Nat) : (rounds W n i).length ≤ most W := by
 refine nodup_le (m := n :: names W) (rounds_nodup W n i) (fun x hx => ?_)
 rcases up_names (rounds_up W n i x hx) with rfl | h
 ·exact List.mem_cons_self ..
 ·exact List.mem_cons_of_mem _ h
def everyU (W : WL) (n : ByteArray) : List ByteArray := rounds W n (most W)
theorem rounds_all {W : WL} {n : ByteArray} {i : Nat} (h : (rounds W n i).length ≤ i) (hi : i ≤ most W) : rounds W n i = everyU W n := by
 have := rounds_stay h (most W - i)
 rw [← this]; congr 1; omega
theorem mem_every {W : WL} {n x : ByteArray} : x ∈ everyU W n ↔ Up W n x := by
 constructor
 ·exact rounds_up W n _ x
 ·intro h
  induction h with
  | self =>
   obtain ⟨r, h⟩ := rounds_pre W n 0 (most W)
   rw [Nat.zero_add] at h
   unfold everyU
   rw [h]
   exact List.mem_append_left _ (List.mem_singleton_self n)
  | step _ hb ih =>
   obtain ⟨k, hk, e⟩ := List.getElem_of_mem ih
   refine rounds_above W n _ k ?_ _ (by rw [← e]; exact List.getElem?_eq_getElem hk) _ hb
   have := rounds_most W n (most W)
   unfold everyU at hk
   omega
theorem every_nodup (W : WL) (n : ByteArray) : (everyU W n).Nodup := rounds_nodup W n _
theorem every_len (W : WL) (n : ByteArray) : 1 ≤ (everyU W n).length := rounds_len W n _
def roundW (W : WL) (n : ByteArray) : Bool := (above W n).any fun a => inTexts n (everyU W a)
theorem every_less {W : WL} {n a : ByteArray} (h : roundW W n = false) (ha : a ∈ above W n) : (everyU W a).length < (everyU W n).length := by
 have hn : n ∉ everyU W a := fun hm => by
  have : roundW W n = true := List.any_eq_true.2 ⟨a, ha, inT_mem.2 hm⟩
  rw [h] at this; cases this
 have hsub : ∀ x ∈ n :: everyU W a, x ∈ everyU W n := fun x hx => by
  rcases List.mem_cons.1 hx with rfl | hx
  ·exact mem_every.2 .self
  ·exact mem_every.2 ((Up.step .self ha).trans (mem_every.1 hx))
 exact nodup_le (List.nodup_cons.2 ⟨hn, every_nodup W a⟩) hsub
inductive Line (W : WL) : ByteArray → List ByteArray → Prop
 | stop {n : ByteArray} : (cAt W n).sup = noB → Line W n [n]
 | up {n : ByteArray} {l : List ByteArray} : (cAt W n).sup ≠ noB → Line W (cAt W n).sup l → Line W n (n :: l)
theorem Line.same {W : WL} {n : ByteArray} {l m : List ByteArray} (h : Line W n l) (k : Line W n m) : l = m := by
 induction h generalizing m with
 | stop h0 =>
  cases k with
  | stop _ => rfl
  | up h1 _ => exact absurd h0 h1
 | up h0 _ ih =>
  cases k with
  | stop h1 => exact absurd h1 h0
  | up _ k => rw [ih k]
def Sound (W : WL) : Prop := ∀ n, (getK W n).isSome = true → roundW W n = false
theorem has_line {W : WL} (h : Sound W) : ∀ (k : Nat) (n : ByteArray), (everyU W n).length ≤ k → ∃ l, Line W n l ∧ l.length ≤ k
 | 0, n, hk => by have := every_len W n; omega
 | k + 1, n, hk => by
  by_cases h0 : (cAt W n).sup = noB
  ·exact ⟨_, .stop h0, by simp⟩
  ·have hin : (getK W n).isSome = true := by
    unfold cAt at h0
    cases hg : getK W n with
    | none => rw [hg] at h0; exact absurd rfl h0
    | some c => rfl
   have ha : (cAt W n).sup ∈ above W n := by
    unfold above aboveC
    rw [if_neg h0]; exact List.mem_cons_self ..
   have := every_less (h n hin) ha
   obtain ⟨l, hl, hl2⟩ := has_line h k (cAt W n).sup (by omega)
   exact ⟨_, .up h0 hl, by simpa using hl2⟩
def objB : ByteArray := { data := #[79, 98, 106, 101, 99, 116] }
def fltB : ByteArray := { data := #[70, 97, 117, 108, 116] }
def objC : CV := { zeroC with nm := objB }
def fltC : CV := { zeroC with nm := fltB, sup := objB }
def firstW : WL := [(objB, objC), (fltB, fltC)]
def firstF {T : Type} (f : T → Int) : List T → Int
 | [] => 0
 | x :: r => if f x = 0 then firstF f r else f x
theorem ff_ok {T : Type} {f : T → Int} {l : List T} {k : Nat} (hk : k < l.length) (h : f l[k] = 0) : firstF f (l.drop k) = firstF f (l.drop (k + 1)) := by rw [List.drop_eq_getElem_cons hk, firstF, if_pos h]
theorem ff_no {T : Type} {f : T → Int} {l : List T} {k : Nat} (hk : k < l.length) (h : ¬ f l[k] = 0) : firstF f (l.drop k) = f l[k] := by rw [List.drop_eq_getElem_cons hk, firstF, if_neg h]
theorem ff_end {T : Type} {f : T → Int} {l : List T} {k : Nat} (hk : ¬ k < l.length) : firstF f (l.drop k) = 0 := by rw [List.drop_eq_nil_of_le (by omega)]; rfl
theorem ff_all {T : Type} {f : T → Int} : ∀ {l : List T}, firstF f l = 0 ↔ ∀ x ∈ l, f x = 0
 | [] => by simp [firstF]
 | x :: r => by
  unfold firstF
  by_cases h : f x = 0
  ·rw [if_pos h, ff_all]; simp [h]
  ·rw [if_neg h]; simp [h]
def load : WL → List CV → Int × WL
 | W, [] => (0, W)
 | W, c :: r => if clsFault c ≠ 0 then (clsFault c, W) else if (getK W c.nm).isSome = true then (5, W) else load (setK W c.nm c) r
theorem load_bad {W : WL} {l : List CV} {k : Nat} (hk : k < l.length) (h : clsFault l[k] ≠ 0) : load W (l.drop k) = (clsFault l[k], W) := by rw [List.drop_eq_getElem_cons hk, load, if_pos h]
theorem load_twice {W : WL} {l : List CV} {k : Nat} (hk : k < l.length) (h : clsFault l[k] = 0) (h2 : (getK W l[k].nm).isSome = true) : load W (l.drop k) = (5, W) := by rw [List.drop_eq_getElem_cons hk, load, if_neg (by simp [h]), if_pos h2]
theorem load_ok {W : WL} {l : List CV} {k : Nat} (hk : k < l.length) (h : clsFault l[k] = 0) (h2 : ¬ (getK W l[k].nm).isSome = true) : load W (l.drop k) = load (setK W l[k].nm l[k]) (l.drop (k + 1)) := by rw [List.drop_eq_getElem_cons hk, load, if_neg (by simp [h]), if_neg h2]
theorem load_end {W : WL} {l : List CV} {k : Nat} (hk : ¬ k < l.length) : load W (l.drop k) = (0, W) := by rw [List.drop_eq_nil_of_le (by omega)]; rfl
theorem load_get : ∀ {l : List CV} {W V : WL}, load W l = (0, V) → (∀ n c, getK W n = some c → getK V n = some c) ∧ (∀ c ∈ l, getK V c.nm = some c ∧ clsFault c = 0) ∧
  (∀ n c, getK V n = some c → getK W n = some c ∨ (c ∈ l ∧ n = c.nm))
 | [], W, V, h => by
  simp only [load, Prod.mk.injEq, true_and] at h
  subst h
  refine ⟨fun _ _ h => h, fun c hc => ?_, fun _ _ h => .inl h⟩
  cases hc
 | c :: r, W, V, h => by
  unfold load at h
  by_cases h1 : clsFault c ≠ 0
  ·rw [if_pos h1] at h
   simp only [Prod.mk.injEq] at h
   exact absurd h.1 h1
  rw [if_neg h1] at h
  by_cases h2 : (getK W c.nm).isSome = true
  ·rw [if_pos h2] at h
   simp only [Prod.mk.injEq] at h
   exact absurd h.1 (by decide)
  rw [if_neg h2] at h
  obtain ⟨g1, g2, g3⟩ := load_get h
  have hnone : getK W c.nm = none := by simpa using h2
  refine ⟨fun n d hd => g1 n d ?_, fun d hd => ?_, fun n d hd => ?_⟩
  ·rw [getK_set]
   by_cases e : n = c.nm
   ·subst e; rw [hnone] at hd; cases hd
   ·rw [if_neg e]; exact hd
  ·rcases List.mem_cons.1 hd with rfl | hd
   ·exact ⟨g1 _ _ (by rw [getK_set, if_pos rfl]), by simpa using h1⟩
   ·exact g2 d hd
  ·rcases g3 n d hd with h3 | ⟨h3, h4⟩
   ·rw [getK_set] at h3
    by_cases e : n = c.nm
    ·rw [if_pos e] at h3
     cases h3
     exact .inr ⟨List.mem_cons_self .., e⟩
    ·rw [if_neg e] at h3
     exact .inl h3
   ·exact .inr ⟨List.mem_cons_of_mem _ h3, h4⟩
def hasFault (W : WL) (n : ByteArray) (face : Bool) : Int := match getK W n with
 | none => 3
 | some c => if c.face ≠ face then 7 else 0
def isIn (W : WL) (n : ByteArray) : Int := if (getK W n).isSome = true then 0 else 3
def joinFault (W : WL) (c : CV) : Int :=
 if c.sup = noB then 1 else if isIn W c.sup ≠ 0 then 3 else if firstF (isIn W) c.faces ≠ 0 then 3
 else if hasFault W c.sup false ≠ 0 then hasFault W c.sup false else if firstF (fun f => hasFault W f true) c.faces ≠ 0 then firstF (fun f => hasFault W f true) c.faces
 else if c.face = true ∧ c.sup ≠ objB then 7 else 0
def roundFault (W : WL) (c : CV) : Int := if roundW W c.nm = true then 6 else 0
def readW (l : List CV) : Int × WL :=
 if 10 < l.length then (4, []) else if (load firstW l).1 ≠ 0 then ((load firstW l).1, []) else
 if firstF (joinFault (load firstW l).2) l ≠ 0 then (firstF (joinFault (load firstW l).2) l, []) else
 if firstF (roundFault (load firstW l).2) l ≠ 0 then (6, []) else (0, (load firstW l).2)
structure GoodW (W : WL) : Prop where
 sound : Sound W
 obj : getK W objB = some objC
 flt : getK W fltB = some fltC
 size : W.length ≤ 12
 faces : ∀ n c, getK W n = some c → c.faces.length ≤ 8
 fields : ∀ n c, getK W n = some c → c.fields.length ≤ 8
 mets : ∀ n c, getK W n = some c → c.mets.length ≤ 8
 cls : ∀ n c, getK W n = some c → n = c.nm ∧ (n = objB ∧ c = objC ∨ n = fltB ∧ c = fltC ∨ clsFault c = 0)
theorem setK_len {α : Type} (l : List (ByteArray × α)) (k : ByteArray) (v : α) : (setK l k v).length ≤ l.length + 1 := by
 induction l with
 | nil => simp [setK]
 | cons x r ih =>
  obtain ⟨i, u⟩ := x
  simp only [setK]
  split
  ·simp
  ·simp only [List.length_cons]; omega
theorem load_len : ∀ {l : List CV} {W V : WL} {f : Int}, load W l = (f, V) → V.length ≤ W.length + l.length
 | [], W, V, f, h => by
  simp only [load, Prod.mk.injEq] at h
  obtain ⟨_, rfl⟩ := h
  simp
 | c :: r, W, V, f, h => by
  unfold load at h
  by_cases h1 : clsFault c ≠ 0
  ·rw [if_pos h1] at h
   simp only [Prod.mk.injEq] at h
   obtain ⟨_, rfl⟩ := h
   simp
  rw [if_neg h1] at h
  by_cases h2 : (getK W c.nm).isSome = true
  ·rw [if_pos h2] at h
   simp only [Prod.mk.injEq] at h
   obtain ⟨_, rfl⟩ := h
   simp
  rw [if_neg h2] at h
  have := load_len h
  have := setK_len W c.nm c
  simp only [List.length_cons]
  omega
theorem cls_small {c : CV} (h : clsFault c = 0) : c.faces.length ≤ 8 ∧ c.fields.length ≤ 8 ∧ c.mets.length ≤ 8 := by
 unfold clsFault at h
 by_cases a1 : headBad c = true
 ·rw [if_pos a1] at h; cases h
 rw [if_neg a1] at h
 by_cases a2 : firstBad faceFault [] c.faces ≠ 0
 ·rw [if_pos a2] at h; exact absurd h a2
 rw [if_neg a2] at h
 by_cases a3 : 8 < c.faces.length ∨ 8 < c.fields.length ∨ 8 < c.mets.length
 ·rw [if_pos a3] at h; cases h
 omega
theorem above_none {W : WL} {n : ByteArray} (h : getK W n = some objC) : above W n = [] := by
 unfold above cAt
 rw [h]
 rfl
theorem every_none {W : WL} {n : ByteArray} (h : above W n = []) {x : ByteArray} (hx : x ∈ everyU W n) : x = n := by
 have : Up W n x := mem_every.1 hx
 induction this with
 | self => rfl
 | step ha hb ih =>
  have := ih (mem_every.2 ha)
  subst this
  rw [h] at hb; cases hb
theorem obj_flt : objB ≠ fltB := fun h => by
 have := congrArg ByteArray.size h
 exact absurd this (by decide)
theorem read_good {l : List CV} {W : WL} (h : readW l = (0, W)) : GoodW W := by
 unfold readW at h
 by_cases h0 : 10 < l.length
 ·rw [if_pos h0] at h; simp at h
 rw [if_neg h0] at h
 obtain ⟨f, V, hV⟩ : ∃ f V, load firstW l = (f, V) := ⟨_, _, rfl⟩
 rw [hV] at h
 simp only at h
 by_cases h1 : f ≠ 0
 ·rw [if_pos h1] at h
  simp only [Prod.mk.injEq] at h
  exact absurd h.1 h1
 rw [if_neg h1] at h
 obtain rfl : f = 0 := by simpa using h1
 by_cases h2 : firstF (joinFault V) l ≠ 0
 ·rw [if_pos h2] at h
  simp only [Prod.mk.injEq] at h
  exact absurd h.1 h2
 rw [if_neg h2] at h
 by_cases h3 : firstF (roundFault V) l ≠ 0
 ·rw [if_pos h3] at h
  simp at h
 rw [if_neg h3] at h
 simp only [Prod.mk.injEq, true_and] at h
 subst h
 obtain ⟨g1, g2, g3⟩ := load_get hV
 have ho : getK V objB = some objC := g1 _ _ (by simp [firstW, getK])
 have hf : getK V fltB = some fltC := g1 _ _ (by simp [firstW, getK, (Ne.symm obj_flt)])
 have hall : ∀ n c, getK V n = some c → n = objB ∧ c = objC ∨ n = fltB ∧ c = fltC ∨ (c ∈ l ∧ n = c.nm) := fun n c hc => by
  rcases g3 n c hc with h | h
  ·simp only [firstW, getK] at h
   by_cases e : n = objB
   ·rw [if_pos e] at h; cases h; exact .inl ⟨e, rfl⟩
   ·rw [if_neg e] at h
    by_cases e2 : n = fltB
    ·rw [if_pos e2] at h; cases h; exact .inr (.inl ⟨e2, rfl⟩)
    ·rw [if_neg e2] at h; cases h
  ·exact .inr (.inr h)
 have h2' : firstF (joinFault V) l = 0 := by simpa using h2
 have h3' : firstF (roundFault V) l = 0 := by simpa using h3
 refine ⟨fun n hn => ?_, ho, hf, ?_, fun n c hc => ?_, fun n c hc => ?_, fun n c hc => ?_, fun n c hc => ?_⟩
 ·obtain ⟨c, hc⟩ := Option.isSome_iff_exists.1 hn
  rcases hall n c hc with ⟨rfl, _⟩ | ⟨rfl, rfl⟩ | ⟨hm, rfl⟩
  ·unfold roundW; rw [above_none ho]; rfl
  ·have ha : above V fltB = [objB] := by unfold above cAt; rw [hf]; rfl
   unfold roundW
   rw [ha]
   simp only [List.any_cons, List.any_nil, Bool.or_false]
   cases hi : inTexts fltB (everyU V objB) with
   | false => rfl
   | true => exact absurd (every_none (above_none ho) (inT_mem.1 hi)) (Ne.symm obj_flt)
  ·have := ff_all.1 h3' c hm
   unfold roundFault at this
   cases hr : roundW V c.nm with
   | false => rfl
   | true => rw [hr, if_pos rfl] at this; cases this
 ·have := load_len hV
  have e : firstW.length = 2 := rfl
  omega
 ·rcases hall n c hc with ⟨_, rfl⟩ | ⟨_, rfl⟩ | ⟨hm, _⟩
  ·simp [objC, zeroC]
  ·simp [fltC, zeroC]
  ·exact (cls_small (g2 c hm).2).1
 ·rcases hall n c hc with ⟨_, rfl⟩ | ⟨_, rfl⟩ | ⟨hm, _⟩
  ·simp [objC, zeroC]
  ·simp [fltC, zeroC]
  ·exact (cls_small (g2 c hm).2).2.1
 ·rcases hall n c hc with ⟨_, rfl⟩ | ⟨_, rfl⟩ | ⟨hm, _⟩
  ·simp [objC, zeroC]
  ·simp [fltC, zeroC]
  ·exact (cls_small (g2 c hm).2).2.2
 ·rcases hall n c hc with ⟨rfl, rfl⟩ | ⟨rfl, rfl⟩ | ⟨hm, rfl⟩
  ·exact ⟨rfl, .inl ⟨rfl, rfl⟩⟩
  ·exact ⟨rfl, .inr (.inl ⟨rfl, rfl⟩)⟩
  ·exact ⟨rfl, .inr (.inr (g2 c hm).2)⟩
theorem most_small {W : WL} (h1 : W.length ≤ 12) (h2 : ∀ p ∈ W, p.2.faces.length ≤ 1048576) : most W ≤ 13000000 := by
 have : ∀ {l : WL}, (∀ p ∈ l, p.2.faces.length ≤ 1048576) → (names l).length ≤ l.length * 1048577 := by
  intro l
  induction l with
  | nil => intro _; simp [names]
  | cons p r ih =>
   intro h
   have h3 := ih (fun q hq => h q (List.mem_cons_of_mem _ hq))
   have h4 := h p (List.mem_cons_self ..)
   unfold names at h3 ⊢
   rw [List.flatMap_cons, List.length_append, List.length_cons, Nat.succ_mul]
   have : (aboveC p.2).length ≤ p.2.faces.length + 1 := by
    unfold aboveC
    split
    ·omega
    ·simp
   omega
 have := this h2
 unfold most
 omega
open Go.RowKit lib maps classes descs
def lineF (W : WL) : Nat → ByteArray → List ByteArray
 | 0, n => [n]
 | f + 1, n => if (cAt W n).sup = noB then [n] else n :: lineF W f (cAt W n).sup
theorem line_pos {W : WL} {n : ByteArray} {l : List ByteArray} (h : Line W n l) : 1 ≤ l.length := by cases h <;> simp
theorem line_eq {W : WL} {n : ByteArray} {l : List ByteArray} (h : Line W n l) : ∀ f, l.length ≤ f + 1 → lineF W f n = l := by
 induction h with
 | stop h0 =>
  intro f _
  cases f with
  | zero => rfl
  | succ f => rw [lineF, if_pos h0]
 | up h0 hl ih =>
  intro f hf
  cases f with
  | zero =>
   have := line_pos hl
   simp only [List.length_cons] at hf
   omega
  | succ f =>
   rw [lineF, if_neg h0, ih f (by simp only [List.length_cons] at hf; omega)]
def lineOf (W : WL) (n : ByteArray) : List ByteArray := lineF W (most W) n
theorem line_of {W : WL} (h : Sound W) (n : ByteArray) : Line W n (lineOf W n) ∧ (lineOf W n).length ≤ most W := by
 obtain ⟨l, h1, h2⟩ := has_line h _ n (rounds_most W n (most W))
 have := line_eq h1 (most W) (by omega)
 unfold lineOf
 rw [this]
 exact ⟨h1, h2⟩
def refs (k : List UInt8) : Bool := decide (k.head? = some 76) || decide (k.head? = some 91)
def coreB (t : List UInt8) : List UInt8 := t.dropWhile (· == (91 : UInt8))
def classB (t : List UInt8) : List UInt8 := if isWd (coreB t) = true then [] else ((coreB t).drop 1).dropLast
def classN (t : List UInt8) : ByteArray := bs (classB t)
def thingB (n : ByteArray) : List UInt8 := 76 :: (n.data.toList ++ [59])
def objT : List UInt8 := [76, 79, 98, 106, 101, 99, 116, 59]
def kindF (W : WL) (k : List UInt8) : Int :=
 if k = [78] ∨ k = [84] then 0 else if isTy k = false then 1 else if classB k ≠ [] ∧ getK W (classN k) = none then 3 else 0
def doesL (W : WL) : List UInt8 → List UInt8 → Bool
 | [], tt => decide (tt = [84] ∨ tt = [])
 | x :: a, tt =>
  if tt = [84] ∨ x :: a = tt ∨ (x :: a = [78] ∧ refs tt = true) then true
  else if refs (x :: a) = false ∨ refs tt = false then false
  else if x = 76 then (decide (tt.head? = some 76) && inTexts (classN tt) (everyU W (classN (x :: a))))
  else match tt with
   | [] => false
   | y :: b => if y = 76 then decide (y :: b = objT) else (refs a && (refs b && doesL W a b))
structure Vl where
 k : Int
 n : Int
def Vl.cells (v : Vl) : List Value := [.int .i64 v.k, .int .i64 v.n]
structure Th where
 ty : ByteArray
 vh : Value
 has : List Vl
def Th.cells (x : Th) : List Value := [.string x.ty, x.vh]
abbrev Vls (w : World) (v : Value) (l : List Vl) : Prop := Sl w v l.length 2 (l.flatMap Vl.cells)
structure Ths (w : World) (v : Value) (l : List Th) : Prop where
 sl : Sl w v l.length 2 (l.flatMap Th.cells)
 at_ : ∀ x ∈ l, Vls w x.vh x.has
theorem Ths.below {w w' : World} {v : Value} {l : List Th} (h : Ths w v l) (hb : Below w.heap.size w w') : Ths w' v l := ⟨h.sl.below hb, fun x hx => (h.at_ x hx).below hb⟩
theorem vl_at {w : World} {a : Option Addr} {n c : Nat} {l : List Vl} (h : Vls w (.slice a n c) l) {k : Nat} (hk : k < l.length) :
  ∃ b off, a = some ⟨b, off, none⟩ ∧ w.cell? ⟨b, off + k * 2, none⟩ = some (.int .i64 l[k].k) ∧ w.cell? ⟨b, off + k * 2 + 1, none⟩ = some (.int .i64 l[k].n) := by
 obtain ⟨b, off, ha, hc⟩ := row_at (cells := Vl.cells) (sz := 2) (fun _ => rfl) h hk (by decide)
 refine ⟨b, off, ha, ?_, ?_⟩
 ·have := hc 0 (by decide); rw [Nat.add_zero] at this; exact this
 ·have := hc 1 (by decide); rw [← Nat.add_assoc] at this; exact this
theorem th_at {w : World} {a : Option Addr} {n c : Nat} {l : List Th} (h : Ths w (.slice a n c) l) {k : Nat} (hk : k < l.length) :
  ∃ b off, a = some ⟨b, off, none⟩ ∧ w.cell? ⟨b, off + k * 2, none⟩ = some (.string l[k].ty) ∧ w.cell? ⟨b, off + k * 2 + 1, none⟩ = some l[k].vh := by
 obtain ⟨b, off, ha, hc⟩ := row_at (cells := Th.cells) (sz := 2) (fun _ => rfl) h.sl hk (by decide)
 refine ⟨b, off, ha, ?_, ?_⟩
 ·have := hc 0 (by decide); rw [Nat.add_zero] at this; exact this
 ·have := hc 1 (by decide); rw [← Nat.add_assoc] at this; exact this
def doesV (W : WL) (H : List Th) (v : Vl) (t : List UInt8) : Bool :=
 if v.k = 1 then decide (t = [73] ∧ v.n = wrap32 v.n) else if v.k = 2 then decide (t = [74])
 else if v.k = 3 then (if refs t = false ∨ v.n < 0 ∨ (H.length : Int) < v.n then false else if v.n = 0 then true else match H[(v.n - 1).toNat]? with
  | none => false
  | some x => doesL W x.ty.data.toList t) else false
end Go.Proofs.YtloonnfelgokmaaGreatDoor.worlds
