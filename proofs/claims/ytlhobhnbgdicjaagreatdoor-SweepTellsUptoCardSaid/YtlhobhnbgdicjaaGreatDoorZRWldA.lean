/- The reference's worlds, in plain words. No condition. -/
import Derived.Test.YtlhobhnbgdicjaaGreatDoorZWld1
import Derived.Test.YtlhobhnbgdicjaaGreatDoorZWldQ
import Derived.Test.YtlhobhnbgdicjaaGreatDoorZWldK
import Derived.Test.YtlhobhnbgdicjaaGreatDoorZOwn
import Derived.Test.YtlhobhnbgdicjaaGreatDoorZRet
import Derived.Test.YtlhobhnbgdicjaaGreatDoorZCls8
namespace Go.Proofs.YtlhobhnbgdicjaaGreatDoor.worlds
open Go.RowKit lib maps classes
def getL (l : List CV) (n : ByteArray) : Option CV := if n = objB then some objC else if n = fltB then some fltC else l.find? (fun c => decide (c.nm = n))
def aboveL (l : List CV) (n : ByteArray) : List ByteArray := aboveC ((getL l n).getD zeroC)
def namesL (l : List CV) : List ByteArray := objB :: l.flatMap aboveC
theorem getL_mem {l : List CV} {n : ByteArray} {c : CV} (h : getL l n = some c) : c = objC ∨ c = fltC ∨ c ∈ l := by
 unfold getL at h
 by_cases h1 : n = objB
 ·rw [if_pos h1] at h; cases h; exact .inl rfl
 rw [if_neg h1] at h
 by_cases h2 : n = fltB
 ·rw [if_pos h2] at h; cases h; exact .inr (.inl rfl)
 rw [if_neg h2] at h
 exact .inr (.inr (List.mem_of_find?_eq_some h))
theorem aboveL_names {l : List CV} {a b : ByteArray} (h : b ∈ aboveL l a) : b ∈ namesL l := by
 unfold aboveL at h
 cases hg : getL l a with
 | none => rw [hg] at h; simp [zeroC, aboveC] at h
 | some c =>
  rw [hg] at h
  rcases getL_mem hg with rfl | rfl | hm
  ·have : aboveC objC = [] := rfl
   rw [Option.getD_some, this] at h; cases h
  ·have : aboveC fltC = [objB] := rfl
   rw [Option.getD_some, this] at h
   obtain rfl := List.mem_singleton.1 h
   exact List.mem_cons_self ..
  ·exact List.mem_cons_of_mem _ (List.mem_flatMap.2 ⟨c, hm, h⟩)
def upR (l : List CV) (n : ByteArray) : Nat → List ByteArray
 | 0 => aboveL l n
 | i + 1 => match (upR l n i)[i]? with
  | some a => addAll (upR l n i) (aboveL l a)
  | none => upR l n i
theorem upR_step {l : List CV} {n : ByteArray} {i : Nat} (h : i < (upR l n i).length) : upR l n (i + 1) = addAll (upR l n i) (aboveL l (upR l n i)[i]) := by
 rw [upR, List.getElem?_eq_getElem h]
theorem upR_stay {l : List CV} {n : ByteArray} {i : Nat} (h : (upR l n i).length ≤ i) : ∀ k, upR l n (i + k) = upR l n i
 | 0 => rfl
 | k + 1 => by
  have ih := upR_stay h k
  rw [← Nat.add_assoc, upR, ih, List.getElem?_eq_none (by omega)]
theorem upR_pre (l : List CV) (n : ByteArray) (i : Nat) : ∀ k, ∃ r, upR l n (i + k) = upR l n i ++ r
 | 0 => ⟨[], by simp⟩
 | k + 1 => by
  obtain ⟨r, h⟩ := upR_pre l n i k
  rw [← Nat.add_assoc, upR]
  split
  ·obtain ⟨s, h2⟩ := add_pre (aboveL l _) (upR l n (i + k))
   exact ⟨r ++ s, by rw [h2, h, List.append_assoc]⟩
  ·exact ⟨r, h⟩
theorem add_new (l : List ByteArray) : ∀ (p r : List ByteArray), r.Nodup → ∃ s, addAll (p ++ r) l = p ++ (r ++ s) ∧ (r ++ s).Nodup ∧ ∀ x ∈ s, x ∈ l := by
 induction l with
 | nil => intro p r h; exact ⟨[], by simp [addAll], by simpa using h, by simp⟩
 | cons a l ih =>
  intro p r h
  simp only [addAll]
  by_cases ha : inTexts a (p ++ r) = true
  ·rw [if_pos ha]
   obtain ⟨s, h1, h2, h3⟩ := ih p r h
   exact ⟨s, h1, h2, fun x hx => List.mem_cons_of_mem _ (h3 x hx)⟩
  ·rw [if_neg ha]
   have hna : a ∉ p ++ r := fun hm => ha (inT_mem.2 hm)
   have hr : (r ++ [a]).Nodup := List.nodup_append.2 ⟨h, by simp, fun x hx y hy => by
    obtain rfl := List.mem_singleton.1 hy
    intro e; subst e; exact hna (List.mem_append_right _ hx)⟩
   obtain ⟨s, h1, h2, h3⟩ := ih p (r ++ [a]) hr
   refine ⟨[a] ++ s, ?_, ?_, fun x hx => ?_⟩
   ·rw [List.append_assoc, h1, List.append_assoc]
   ·rw [← List.append_assoc]; exact h2
   ·rcases List.mem_append.1 hx with hx | hx
    ·obtain rfl := List.mem_singleton.1 hx
     exact List.mem_cons_self ..
    ·exact List.mem_cons_of_mem _ (h3 x hx)
theorem upR_form (l : List CV) (n : ByteArray) : ∀ i, ∃ r, upR l n i = aboveL l n ++ r ∧ r.Nodup ∧ ∀ x ∈ r, x ∈ namesL l
 | 0 => ⟨[], by simp [upR], by simp, by simp⟩
 | i + 1 => by
  obtain ⟨r, h1, h2, h3⟩ := upR_form l n i
  rw [upR]
  split
  ·rename_i a ha
   obtain ⟨s, h4, h5, h6⟩ := add_new (aboveL l a) (aboveL l n) r h2
   refine ⟨r ++ s, by rw [h1, h4], h5, fun x hx => ?_⟩
   rcases List.mem_append.1 hx with hx | hx
   ·exact h3 x hx
   ·exact aboveL_names (h6 x hx)
  ·exact ⟨r, h1, h2, h3⟩
def mostL (l : List CV) (n : ByteArray) : Nat := (aboveL l n).length + (namesL l).length
theorem upR_most (l : List CV) (n : ByteArray) (i : Nat) : (upR l n i).length ≤ mostL l n := by
 obtain ⟨r, h1, h2, h3⟩ := upR_form l n i
 have := nodup_le h2 h3
 rw [h1, List.length_append]; unfold mostL; omega
def upAll (l : List CV) (n : ByteArray) : List ByteArray := upR l n (mostL l n)
theorem upR_all {l : List CV} {n : ByteArray} {i : Nat} (h : (upR l n i).length ≤ i) (hi : i ≤ mostL l n) : upR l n i = upAll l n := by
 have := upR_stay h (mostL l n - i)
 unfold upAll
 rw [← this]; congr 1; omega
theorem above_eq {l : List CV} {W : WL} (h : ∀ n, getK W n = getL l n) (n : ByteArray) : above W n = aboveL l n := by
 unfold above cAt aboveL; rw [h]
theorem upR_up {l : List CV} {W : WL} (h : ∀ n, getK W n = getL l n) (n : ByteArray) : ∀ i, ∀ x ∈ upR l n i, ∃ a ∈ above W n, Up W a x
 | 0, x, hx => ⟨x, by rw [above_eq h]; exact hx, .self⟩
 | i + 1, x, hx => by
  have ih := upR_up h n i
  rw [upR] at hx
  split at hx
  ·rename_i a ha
   rcases (mem_add _ _ _).1 hx with hx | hx
   ·exact ih x hx
   ·obtain ⟨b, hb, hu⟩ := ih a (List.mem_of_getElem? ha)
    exact ⟨b, hb, .step hu (by rw [above_eq h]; exact hx)⟩
  ·exact ih x hx
theorem upR_above (l : List CV) (n : ByteArray) : ∀ i k, k < i → ∀ a, (upR l n i)[k]? = some a → ∀ b ∈ aboveL l a, b ∈ upR l n i
 | 0, k, h, _, _, _, _ => absurd h (Nat.not_lt_zero _)
 | i + 1, k, h, a, ha, b, hb => by
  obtain ⟨r, hr⟩ := upR_pre l n i 1
  by_cases hk : k < i
  ·by_cases hl : k < (upR l n i).length
   ·rw [hr, List.getElem?_append_left hl] at ha
    rw [hr]
    exact List.mem_append_left _ (upR_above l n i k hk a ha b hb)
   ·have : upR l n (i + 1) = upR l n i := upR_stay (by omega) 1
    rw [this, List.getElem?_eq_none (by omega)] at ha
    cases ha
  ·obtain rfl : k = i := by omega
   by_cases hl : k < (upR l n k).length
   ·have e := upR_step hl
    rw [e]
    rw [hr, List.getElem?_append_left hl, List.getElem?_eq_getElem hl] at ha
    cases ha
    exact (mem_add _ _ _).2 (.inr hb)
   ·have : upR l n (k + 1) = upR l n k := upR_stay (by omega) 1
    rw [this, List.getElem?_eq_none (by omega)] at ha
    cases ha
theorem mem_upAll {l : List CV} {W : WL} (h : ∀ n, getK W n = getL l n) {n x : ByteArray} : x ∈ upAll l n ↔ ∃ a ∈ above W n, Up W a x := by
 constructor
 ·exact upR_up h n _ x
 ·rintro ⟨a, ha, hu⟩
  induction hu with
  | self =>
   obtain ⟨r, hr⟩ := upR_pre l n 0 (mostL l n)
   rw [Nat.zero_add] at hr
   unfold upAll
   rw [hr]
   exact List.mem_append_left _ (by rw [above_eq h] at ha; exact ha)
  | step _ hb ih =>
   obtain ⟨k, hk, e⟩ := List.getElem_of_mem ih
   have := upR_most l n (mostL l n)
   have hlt : k < mostL l n := by unfold upAll at hk; omega
   refine upR_above l n _ k hlt _ (show (upAll l n)[k]? = some _ by rw [List.getElem?_eq_getElem hk, e]) _ (by rw [above_eq h] at hb; exact hb)
theorem round_up {l : List CV} {W : WL} (h : ∀ n, getK W n = getL l n) (n : ByteArray) : inTexts n (upAll l n) = roundW W n := by
 rw [Bool.eq_iff_iff, inT_mem, mem_upAll h]
 unfold roundW
 rw [List.any_eq_true]
 constructor
 ·rintro ⟨a, ha, hu⟩; exact ⟨a, ha, inT_mem.2 (mem_every.2 hu)⟩
 ·rintro ⟨a, ha, hu⟩; exact ⟨a, ha, mem_every.1 (inT_mem.1 hu)⟩
def loadR (p : List CV) : List CV → Int
 | [] => 0
 | c :: r => if clsFault c ≠ 0 then clsFault c else if (getL p c.nm).isSome = true then 5 else loadR (p ++ [c]) r
theorem loadR_bad {l : List CV} {k : Nat} (hk : k < l.length) (h : clsFault l[k] ≠ 0) : loadR (l.take k) (l.drop k) = clsFault l[k] := by rw [List.drop_eq_getElem_cons hk, loadR, if_pos h]
theorem loadR_twice {l : List CV} {k : Nat} (hk : k < l.length) (h : clsFault l[k] = 0) (h2 : (getL (l.take k) l[k].nm).isSome = true) : loadR (l.take k) (l.drop k) = 5 := by
 rw [List.drop_eq_getElem_cons hk, loadR, if_neg (by simp [h]), if_pos h2]
theorem loadR_ok {l : List CV} {k : Nat} (hk : k < l.length) (h : clsFault l[k] = 0) (h2 : ¬ (getL (l.take k) l[k].nm).isSome = true) : loadR (l.take k) (l.drop k) = loadR (l.take (k + 1)) (l.drop (k + 1)) := by
 rw [List.drop_eq_getElem_cons hk, loadR, if_neg (by simp [h]), if_neg h2, List.take_succ_eq_append_getElem hk]
theorem loadR_end {l : List CV} {k : Nat} (hk : ¬ k < l.length) : loadR (l.take k) (l.drop k) = 0 := by rw [List.drop_eq_nil_of_le (by omega)]; rfl
theorem getL_add {p : List CV} {c : CV} (h : getL p c.nm = none) (n : ByteArray) : getL (p ++ [c]) n = if n = c.nm then some c else getL p n := by
 unfold getL at h ⊢
 by_cases h1 : n = objB
 ·subst h1
  rw [if_pos rfl]
  by_cases e : objB = c.nm
  ·rw [← e, if_pos rfl] at h; cases h
  ·rw [if_neg e, if_pos rfl]
 rw [if_neg h1]
 by_cases h2 : n = fltB
 ·subst h2
  rw [if_pos rfl]
  by_cases e : fltB = c.nm
  ·rw [← e, if_neg h1, if_pos rfl] at h; cases h
  ·rw [if_neg e, if_neg h1, if_pos rfl]
 rw [if_neg h2, List.find?_append]
 by_cases e : n = c.nm
 ·subst e
  rw [if_neg h1, if_neg h2] at h
  rw [h, if_pos rfl]; simp
 ·rw [if_neg e, if_neg h1, if_neg h2]
  have : List.find? (fun d => decide (d.nm = n)) [c] = none := by simp [Ne.symm e]
  rw [this, Option.or_none]
theorem loadR_eq : ∀ (r p : List CV) (W : WL), (∀ n, getK W n = getL p n) → (load W r).1 = loadR p r ∧ ((load W r).1 = 0 → ∀ n, getK (load W r).2 n = getL (p ++ r) n)
 | [], p, W, h => by
  refine ⟨rfl, fun _ n => ?_⟩
  rw [List.append_nil]; exact h n
 | c :: r, p, W, h => by
  unfold load loadR
  by_cases h1 : clsFault c ≠ 0
  ·rw [if_pos h1, if_pos h1]; exact ⟨rfl, fun e => absurd e h1⟩
  rw [if_neg h1, if_neg h1, h]
  by_cases h2 : (getL p c.nm).isSome = true
  ·rw [if_pos h2, if_pos h2]; exact ⟨rfl, fun e => absurd (show (5 : Int) = 0 from e) (by decide)⟩
  rw [if_neg h2, if_neg h2]
  have hn : getL p c.nm = none := by simpa using h2
  have := loadR_eq r (p ++ [c]) (setK W c.nm c) (fun n => by rw [getK_set, getL_add hn, h])
  rw [List.append_assoc] at this
  exact this
def isInL (l : List CV) (n : ByteArray) : Int := if (getL l n).isSome = true then 0 else 3
def faceL (l : List CV) (p : ByteArray × Bool) : Int := if ((getL l p.1).getD zeroC).face ≠ p.2 then 7 else 0
def withFaces (c : CV) : List (ByteArray × Bool) := (c.sup, false) :: c.faces.map fun f => (f, true)
def joinL (l : List CV) (c : CV) : Int :=
 if c.sup = noB then 1 else if firstF (isInL l) (c.sup :: c.faces) ≠ 0 then 3
 else if firstF (faceL l) (withFaces c) ≠ 0 then 7
 else if c.face = true ∧ c.sup ≠ objB then 7 else 0
theorem ff_one {T : Type} {f : T → Int} {z : Int} (h : ∀ x, f x = 0 ∨ f x = z) : ∀ l, firstF f l = 0 ∨ firstF f l = z
 | [] => .inl rfl
 | x :: r => by
  unfold firstF
  by_cases h0 : f x = 0
  ·rw [if_pos h0]; exact ff_one h r
  ·rw [if_neg h0]; exact h x
theorem ff_mapR {T U : Type} {f : T → Int} {g : U → T} : ∀ l, firstF f (l.map g) = firstF (fun x => f (g x)) l
 | [] => rfl
 | x :: r => by
  simp only [List.map_cons, firstF]
  rw [ff_mapR r]
theorem ff_congr {T : Type} {f g : T → Int} : ∀ {l : List T}, (∀ x ∈ l, f x = g x) → firstF f l = firstF g l
 | [], _ => rfl
 | x :: r, h => by
  simp only [firstF]
  rw [h x (List.mem_cons_self ..), ff_congr (fun y hy => h y (List.mem_cons_of_mem _ hy))]
theorem join_eq {l : List CV} {W : WL} (h : ∀ n, getK W n = getL l n) (c : CV) : joinFault W c = joinL l c := by
 unfold joinFault joinL
 by_cases h0 : c.sup = noB
 ·rw [if_pos h0, if_pos h0]
 rw [if_neg h0, if_neg h0]
 have e : isIn W = isInL l := by funext n; unfold isIn isInL; rw [h]
 rw [e]
 by_cases h1 : isInL l c.sup ≠ 0
 ·rw [if_pos h1, if_pos (by unfold firstF; rw [if_neg h1]; exact h1)]
 rw [if_neg h1]
 have h1' : isInL l c.sup = 0 := by simpa using h1
 have e2 : firstF (isInL l) (c.sup :: c.faces) = firstF (isInL l) c.faces := by rw [firstF, if_pos h1']
 rw [e2]
 by_cases h2 : firstF (isInL l) c.faces ≠ 0
 ·rw [if_pos h2, if_pos h2]
 rw [if_neg h2, if_neg h2]
 have h2' : firstF (isInL l) c.faces = 0 := by simpa using h2
 have hin : ∀ n, isInL l n = 0 → ∀ b, hasFault W n b = faceL l (n, b) := fun n hn b => by
  unfold isInL at hn
  unfold hasFault faceL
  rw [h]
  cases hg : getL l n with
  | none => rw [hg] at hn; simp at hn
  | some d => rfl
 have e3 : firstF (fun f => hasFault W f true) c.faces = firstF (faceL l) (c.faces.map fun f => (f, true)) := by
  rw [ff_mapR]
  exact ff_congr (fun x hx => hin x (ff_all.1 h2' x hx) true)
 rw [e3, hin c.sup h1' false]
 have s1 : faceL l (c.sup, false) = 0 ∨ faceL l (c.sup, false) = 7 := by unfold faceL; split <;> simp
 have s2 : firstF (faceL l) (c.faces.map fun f => (f, true)) = 0 ∨ firstF (faceL l) (c.faces.map fun f => (f, true)) = 7 := ff_one (fun x => by unfold faceL; split <;> simp) _
 unfold withFaces
 rw [firstF]
 generalize faceL l (c.sup, false) = u at s1 ⊢
 generalize firstF (faceL l) (c.faces.map fun f => (f, true)) = v at s2 ⊢
 rcases s1 with rfl | rfl <;> rcases s2 with rfl | rfl <;> simp
def roundL (l : List CV) (c : CV) : Int := if inTexts c.nm (upAll l c.nm) = true then 6 else 0
def worldL (l : List CV) : Int :=
 if 10 < l.length then 4 else if loadR [] l ≠ 0 then loadR [] l else if firstF (joinL l) l ≠ 0 then firstF (joinL l) l else firstF (roundL l) l
theorem first_get (n : ByteArray) : getK firstW n = getL [] n := by
 unfold getL firstW
 simp only [getK, List.find?_nil]
theorem world_eq (l : List CV) : (readW l).1 = worldL l ∧ ((readW l).1 = 0 → ∀ n, getK (readW l).2 n = getL l n) := by
 unfold readW worldL
 by_cases h0 : 10 < l.length
 ·rw [if_pos h0, if_pos h0]; exact ⟨rfl, fun e => absurd e (by decide)⟩
 rw [if_neg h0, if_neg h0]
 obtain ⟨g1, g2⟩ := loadR_eq l [] firstW first_get
 rw [List.nil_append] at g2
 rw [← g1]
 by_cases h1 : (load firstW l).1 ≠ 0
 ·rw [if_pos h1, if_pos h1]; exact ⟨rfl, fun e => absurd e h1⟩
 rw [if_neg h1, if_neg h1]
 have g3 := g2 (by simpa using h1)
 have e : joinFault (load firstW l).2 = joinL l := by funext c; exact join_eq g3 c
 rw [e]
 by_cases h2 : firstF (joinL l) l ≠ 0
 ·rw [if_pos h2, if_pos h2]; exact ⟨rfl, fun e => absurd e h2⟩
 rw [if_neg h2, if_neg h2]
 have e2 : roundFault (load firstW l).2 = roundL l := by funext c; unfold roundFault roundL; rw [round_up g3]
 rw [e2]
 have s : firstF (roundL l) l = 0 ∨ firstF (roundL l) l = 6 := ff_one (fun x => by unfold roundL; split <;> simp) _
 rcases s with s | s
 ·rw [s, if_neg (by simp)]; exact ⟨rfl, fun _ => g3⟩
 ·rw [s, if_pos (by decide)]; exact ⟨rfl, fun e => absurd e (by decide)⟩
end Go.Proofs.YtlhobhnbgdicjaaGreatDoor.worlds
namespace Go.Proofs.YtlhobhnbgdicjaaGreatDoor.worlds
open Go.RowKit lib maps classes descs names
def leastF (lt : ByteArray → ByteArray → Bool) (out : List ByteArray) (m : ByteArray) : List ByteArray → ByteArray
 | [] => m
 | x :: r => leastF lt out (if inTexts x out = false ∧ (m = noB ∨ lt x m = true) then x else m) r
def selR (lt : ByteArray → ByteArray → Bool) (l : List ByteArray) : Nat → List ByteArray
 | 0 => []
 | k + 1 => selR lt l k ++ [leastF lt (selR lt l k) noB l]
theorem selR_len (lt : ByteArray → ByteArray → Bool) (l : List ByteArray) : ∀ k, (selR lt l k).length = k
 | 0 => rfl
 | k + 1 => by rw [selR, List.length_append, selR_len lt l k]; rfl
theorem least_is (lt : ByteArray → ByteArray → Bool) (out : List ByteArray) : ∀ (l : List ByteArray) (m : ByteArray),
  (leastF lt out m l = m ∧ (m = noB → ∀ x ∈ l, x ≠ noB → x ∈ out)) ∨ (leastF lt out m l ∈ l ∧ leastF lt out m l ∉ out)
 | [], m => .inl ⟨rfl, fun _ x hx => absurd hx List.not_mem_nil⟩
 | y :: r, m => by
  rw [leastF]
  by_cases h : inTexts y out = false ∧ (m = noB ∨ lt y m = true)
  ·rw [if_pos h]
   have hy : y ∉ out := fun hm => by rw [inT_mem.2 hm] at h; exact absurd h.1 (by decide)
   rcases least_is lt out r y with ⟨h1, h2⟩ | ⟨h1, h2⟩
   ·by_cases hn : y = noB
    ·subst hn
     rw [h1]
     exact .inr ⟨List.mem_cons_self .., hy⟩
    ·rw [h1]; exact .inr ⟨List.mem_cons_self .., hy⟩
   ·exact .inr ⟨List.mem_cons_of_mem _ h1, h2⟩
  ·rw [if_neg h]
   rcases least_is lt out r m with ⟨h1, h2⟩ | ⟨h1, h2⟩
   ·refine .inl ⟨h1, fun hm x hx hn => ?_⟩
    rcases List.mem_cons.1 hx with rfl | hx
    ·cases hi : inTexts x out with
     | true => exact inT_mem.1 hi
     | false => exact absurd ⟨hi, .inl hm⟩ h
    ·exact h2 hm x hx hn
   ·exact .inr ⟨List.mem_cons_of_mem _ h1, h2⟩
def missN (l out : List ByteArray) : Nat := (l.filter fun x => !inTexts x out).length
theorem inT_add {x y : ByteArray} {out : List ByteArray} : inTexts x (out ++ [y]) = (inTexts x out || decide (x = y)) := by
 rw [Bool.eq_iff_iff, inT_mem]
 simp only [List.mem_append, List.mem_singleton, Bool.or_eq_true, inT_mem, decide_eq_true_eq]
theorem miss_step {l out : List ByteArray} {y : ByteArray} (h1 : y ∈ l) (h2 : y ∉ out) : missN l (out ++ [y]) < missN l out := by
 have e : (l.filter fun x => !inTexts x (out ++ [y])) = (l.filter fun x => !inTexts x out).filter fun x => decide (x ≠ y) := by
  rw [List.filter_filter]
  congr 1
  funext x
  rw [inT_add]
  by_cases h : x = y
  ·simp [h]
  ·simp [h]
 unfold missN
 rw [e]
 refine List.length_filter_lt_length_iff_exists.2 ⟨y, List.mem_filter.2 ⟨h1, ?_⟩, by simp⟩
 cases h : inTexts y out with
 | false => rfl
 | true => exact absurd (inT_mem.1 h) h2
theorem ev_all (lt : ByteArray → ByteArray → Bool) (l : List ByteArray) : ∀ k, missN l (selR lt l k) + k ≤ l.length ∨ ∀ x ∈ l, x ≠ noB → x ∈ selR lt l k
 | 0 => .inl (by
  have := List.length_filter_le (fun x => !inTexts x (selR lt l 0)) l
  unfold missN; omega)
 | k + 1 => by
  rcases ev_all lt l k with h | h
  ·rcases least_is lt (selR lt l k) l noB with ⟨h1, h2⟩ | ⟨h1, h2⟩
   ·exact .inr (fun x hx hn => List.mem_append_left _ (h2 rfl x hx hn))
   ·have := miss_step h1 h2
    rw [selR]
    exact .inl (by omega)
  ·exact .inr (fun x hx hn => List.mem_append_left _ (h x hx hn))
theorem ev_sub (lt : ByteArray → ByteArray → Bool) (l : List ByteArray) : ∀ k, ∀ x ∈ selR lt l k, x = noB ∨ x ∈ l
 | 0, x, hx => absurd hx List.not_mem_nil
 | k + 1, x, hx => by
  rw [selR] at hx
  rcases List.mem_append.1 hx with hx | hx
  ·exact ev_sub lt l k x hx
  ·obtain rfl := List.mem_singleton.1 hx
   rcases least_is lt (selR lt l k) l noB with ⟨h1, h2⟩ | ⟨h1, h2⟩
   ·exact .inl h1
   ·exact .inr h1
theorem mem_ev (lt : ByteArray → ByteArray → Bool) {l : List ByteArray} {x : ByteArray} (hn : x ≠ noB) : x ∈ selR lt l l.length ↔ x ∈ l := by
 constructor
 ·intro h; exact (ev_sub lt l _ x h).resolve_left hn
 ·intro h
  rcases ev_all lt l l.length with h1 | h1
  ·have h2 : missN l (selR lt l l.length) = 0 := by omega
   unfold missN at h2
   rw [List.length_eq_zero_iff, List.filter_eq_nil_iff] at h2
   have := h2 x h
   simp only [Bool.not_eq_true', Bool.not_eq_false] at this
   exact inT_mem.1 this
  ·exact h1 x h hn
theorem mem_name_up {l : List CV} {W : WL} (h : ∀ n, getK W n = getL l n) {n x : ByteArray} : x ∈ n :: upAll l n ↔ x ∈ everyU W n := by
 rw [List.mem_cons, mem_upAll h, mem_every]
 constructor
 ·rintro (rfl | ⟨a, ha, hu⟩)
  ·exact .self
  ·exact (Up.step .self ha).trans hu
 ·intro hu
  induction hu with
  | self => exact .inl rfl
  | step _ hb ih =>
   rcases ih with rfl | ⟨a, ha, hu⟩
   ·exact .inr ⟨_, hb, .self⟩
   ·exact .inr ⟨a, ha, .step hu hb⟩
theorem obj_above {l : List CV} {W : WL} (hr : readW l = (0, W)) (h : ∀ n, getK W n = getL l n) {n : ByteArray} (hn : (getK W n).isSome = true) : objB ∈ everyU W n := by
 have hg := read_good hr
 have hj : firstF (joinL l) l = 0 := by
  have e := (world_eq l).1
  rw [hr] at e
  have e : worldL l = 0 := e.symm
  unfold worldL at e
  by_cases h0 : 10 < l.length
  ·rw [if_pos h0] at e; cases e
  rw [if_neg h0] at e
  by_cases h1 : loadR [] l ≠ 0
  ·rw [if_pos h1] at e; exact absurd e h1
  rw [if_neg h1] at e
  by_cases h2 : firstF (joinL l) l ≠ 0
  ·rw [if_pos h2] at e; exact absurd e h2
  simpa using h2
 have hsup : ∀ n c, getK W n = some c → n = objB ∨ (c.sup ≠ noB ∧ (getK W c.sup).isSome = true) := fun n c hc => by
  have hc2 := hc
  rw [h] at hc2
  unfold getL at hc2
  by_cases h1 : n = objB
  ·exact .inl h1
  rw [if_neg h1] at hc2
  by_cases h2 : n = fltB
  ·rw [if_pos h2] at hc2
   cases hc2
   refine .inr ⟨fun e => ?_, by show (getK W objB).isSome = true; rw [hg.obj]; rfl⟩
   have := congrArg ByteArray.size e
   exact absurd this (by decide)
  rw [if_neg h2] at hc2
  have := ff_all.1 hj c (List.mem_of_find?_eq_some hc2)
  unfold joinL at this
  by_cases h3 : c.sup = noB
  ·rw [if_pos h3] at this; cases this
  rw [if_neg h3] at this
  refine .inr ⟨h3, ?_⟩
  by_cases h4 : firstF (isInL l) (c.sup :: c.faces) ≠ 0
  ·rw [if_pos h4] at this; cases this
  have h5 := ff_all.1 (show firstF (isInL l) (c.sup :: c.faces) = 0 by simpa using h4) c.sup (List.mem_cons_self ..)
  unfold isInL at h5
  rw [h]
  by_cases h6 : (getL l c.sup).isSome = true
  ·exact h6
  ·rw [if_neg h6] at h5; cases h5
 have hl := (line_of hg.sound n).1
 generalize lineOf W n = L at hl
 induction hl with
 | @stop n h0 =>
  obtain ⟨c, hc⟩ := Option.isSome_iff_exists.1 hn
  rcases hsup n c hc with rfl | ⟨h1, _⟩
  ·exact mem_every.2 .self
  ·unfold cAt at h0
   rw [hc] at h0
   exact absurd h0 h1
 | @up n L h0 hl ih =>
  obtain ⟨c, hc⟩ := Option.isSome_iff_exists.1 hn
  have e : cAt W n = c := by unfold cAt; rw [hc]; rfl
  rcases hsup n c hc with rfl | ⟨h1, h2⟩
  ·exact mem_every.2 .self
  ·rw [e] at ih
   have := mem_every.1 (ih h2)
   refine mem_every.2 (Up.trans (Up.step .self ?_) this)
   unfold above aboveC
   rw [e, if_neg h1]
   exact List.mem_cons_self ..
def isRefT (t : List UInt8) : Bool := isTy t && !isWd t
theorem refT_refs {t : List UInt8} (h : isTy t = true) : isRefT t = refs t := by
 unfold isRefT
 rw [h, Bool.true_and]
 cases hw : isWd t with
 | false => rw [refs_of_ty h hw]; rfl
 | true =>
  simp only [isWd, decide_eq_true_eq] at hw
  rcases hw with rfl | rfl <;> rfl
def fitsL (W : WL) : List UInt8 → List UInt8 → Bool
 | [], t => decide (t = [84] ∨ t = [])
 | x :: a, t =>
  if t = [84] ∨ x :: a = t then true else if x :: a = [78] then isRefT t
  else if isRefT (x :: a) = false ∨ isRefT t = false then false else if t = objT then true
  else if x = 91 ∧ t.head? = some 91 then (isRefT a && (isRefT t.tail && fitsL W a t.tail))
  else (decide (x = 76) && (decide (t.head? = some 76) && inTexts (classN t) (everyU W (classN (x :: a)))))
theorem core_tl (a : List UInt8) : coreB (91 :: a) = coreB a := by unfold coreB; rw [List.dropWhile_cons]; rfl
theorem classB_tl (a : List UInt8) : classB (91 :: a) = classB a := by unfold classB; rw [core_tl]
theorem no_N : isTy [78] = false := by decide +kernel
theorem no_T : isTy [84] = false := by decide +kernel
theorem head_name {t : List UInt8} (h : isTy t = true) (h76 : t.head? = some 76) : nameOk (classB t) = true ∧ classB t ≠ [] := by
 obtain ⟨p, u, hpt, hp, h3, hc, hcb⟩ := right_parts h
 cases p with
 | cons z p =>
  have := hp z (List.mem_cons_self ..)
  rw [hpt, List.cons_append, List.head?_cons, this] at h76
  exact absurd (Option.some.inj h76) (by decide)
 | nil =>
  rw [List.nil_append] at hpt
  subst hpt
  unfold classB
  rw [hcb]
  rcases hc with hc | hc | ⟨nm, hc, hnm⟩
  ·rw [hc] at h76; exact absurd (Option.some.inj h76) (by decide)
  ·rw [hc] at h76; exact absurd (Option.some.inj h76) (by decide)
  ·have hw : isWd t = false := by
    unfold isWd
    rw [decide_eq_false_iff_not, hc]
    rintro (h | h)
    ·simp at h
    ·simp at h
   rw [if_neg (by rw [hw]; decide), hc]
   have e : ((76 :: (nm ++ [59])).drop 1).dropLast = nm := by simp
   rw [e]
   refine ⟨hnm, fun e2 => ?_⟩
   rw [e2] at hnm
   exact absurd hnm (by decide)
theorem fits_eq {W : WL} (hobj : ∀ n, (getK W n).isSome = true → objB ∈ everyU W n) : ∀ (f t : List UInt8), isTy f = true → isTy t = true → (classB f ≠ [] → (getK W (classN f)).isSome = true) → fitsL W f t = doesL W f t
 | [], t, hf, _, _ => by have : isTy [] = false := rfl; rw [this] at hf; cases hf
 | x :: a, [], _, ht, _ => by have : isTy [] = false := rfl; rw [this] at ht; cases ht
 | x :: a, y :: c, hf, ht, hk => by
  have h84 : ¬ y :: c = [84] := fun e => by rw [e, no_T] at ht; cases ht
  have h78 : ¬ x :: a = [78] := fun e => by rw [e, no_N] at hf; cases hf
  by_cases he : x :: a = y :: c
  ·rw [← he, does_same]
   unfold fitsL; rw [if_pos (.inr rfl)]
  have e0 : fitsL W (x :: a) (y :: c) = if refs (x :: a) = false ∨ refs (y :: c) = false then false else if y :: c = objT then true
    else if x = 91 ∧ (y :: c).head? = some 91 then (isRefT a && (isRefT c && fitsL W a c))
    else (decide (x = 76) && (decide ((y :: c).head? = some 76) && inTexts (classN (y :: c)) (everyU W (classN (x :: a))))) := by
   rw [fitsL, if_neg (fun h => h.elim h84 he), if_neg h78, refT_refs hf, refT_refs ht]; rfl
  rw [e0]
  by_cases h1 : refs (x :: a) = false ∨ refs (y :: c) = false
  ·rw [if_pos h1, does_no h84 he h78 h1]
  rw [if_neg h1]
  have hx : refs (x :: a) = true := by cases h : refs (x :: a) with | true => rfl | false => exact absurd (.inl h) h1
  have hy : refs (y :: c) = true := by cases h : refs (y :: c) with | true => rfl | false => exact absurd (.inr h) h1
  by_cases h76 : x = 76
  ·rw [does_cls h84 he h78 hy h76]
   by_cases ho : y :: c = objT
   ·rw [if_pos ho]
    have hcn : classN objT = objB := by decide +kernel
    have hk2 : classB (x :: a) ≠ [] := (head_name hf (by rw [h76]; rfl)).2
    have := hobj _ (hk hk2)
    rw [ho, hcn, inT_mem.2 this]; rfl
   ·rw [if_neg ho, if_neg (by rintro ⟨h, _⟩; rw [h76] at h; exact absurd h (by decide)), h76]; simp
  ·have hx91 : x = 91 := (refs_head.1 hx).resolve_left h76
   rcases refs_head.1 hy with hy76 | hy91
   ·rw [does_obj h84 he h78 hx h76 hy76]
    by_cases ho : y :: c = objT
    ·rw [if_pos ho]; simp [ho]
    ·rw [if_neg ho, if_neg (by rintro ⟨_, h⟩; rw [hy76] at h; simp at h)]; simp [h76, ho]
   ·have hny : ¬ y = 76 := by rw [hy91]; decide
    rw [does_arr h84 he h78 hx hy h76 hny]
    have ho : ¬ y :: c = objT := fun e => by rw [hy91] at e; simp [objT] at e
    rw [if_neg ho, if_pos ⟨hx91, by rw [hy91]; rfl⟩]
    subst hx91 hy91
    have ha := ty_tail hf
    have hc := ty_tail ht
    rw [refT_refs ha, refT_refs hc]
    rw [fits_eq hobj a c ha hc (fun hb => by
     have := hk (by rw [classB_tl]; exact hb)
     unfold classN at this ⊢
     rw [classB_tl] at this; exact this)]
end Go.Proofs.YtlhobhnbgdicjaaGreatDoor.worlds
set_option linter.unusedSimpArgs false
set_option linter.unusedVariables false
namespace Go.Proofs.YtlhobhnbgdicjaaGreatDoor.worlds
open Go.RowKit lib maps classes errs descs names grow
def findF (n : ByteArray) : List CV → Option CV
 | [] => none
 | c :: r => if c.nm = n then some c else findF n r
theorem find_F (n : ByteArray) : ∀ l : List CV, l.find? (fun c => decide (c.nm = n)) = findF n l
 | [] => rfl
 | c :: r => by
  rw [List.find?_cons, findF, find_F n r]
  by_cases h : c.nm = n
  ·simp [h]
  ·simp [h]
theorem findF_no {n : ByteArray} {l : List CV} {k : Nat} (hk : k < l.length) (h : ¬ l[k].nm = n) : findF n (l.drop k) = findF n (l.drop (k + 1)) := by rw [List.drop_eq_getElem_cons hk, findF, if_neg h]
theorem findF_yes {n : ByteArray} {l : List CV} {k : Nat} (hk : k < l.length) (h : l[k].nm = n) : findF n (l.drop k) = some l[k] := by rw [List.drop_eq_getElem_cons hk, findF, if_pos h]
theorem findF_end {n : ByteArray} {l : List CV} {k : Nat} (hk : ¬ k < l.length) : findF n (l.drop k) = none := by rw [List.drop_eq_nil_of_le (by omega)]; rfl
theorem list_bytes {n : ByteArray} {l : List UInt8} (h : n.toList = l) : n = ⟨l.toArray⟩ := by
 rw [ByteArray.toList_eq] at h
 obtain ⟨d⟩ := n
 obtain ⟨d⟩ := d
 simp only at h
 subst h; rfl
def ClsOf (w : World) (l : List CV) (n : ByteArray) (e : Ending) (w' : World) : Prop :=
 e = .returned (.tuple #[.agg ((getL l n).getD zeroC).cells.toArray, .bool (getL l n).isSome]) ∧ Below w.heap.size w w'
theorem clsOf_some {w w' : World} {l : List CV} {n : ByteArray} {c : CV} {v : Value} (h : getL l n = some c) (hv : v = .agg c.cells.toArray) (hb : Below w.heap.size w w') : ClsOf w l n (.returned (.tuple #[v, .bool true])) w' := by
 unfold ClsOf; rw [h, hv]; exact ⟨rfl, hb⟩
theorem clsOf_none {w w' : World} {l : List CV} {n : ByteArray} {v : Value} (h : getL l n = none) (hv : v = .agg zeroC.cells.toArray) (hb : Below w.heap.size w w') : ClsOf w l n (.returned (.tuple #[v, .bool false])) w' := by
 unfold ClsOf; rw [h, hv]; exact ⟨rfl, hb⟩
set_option maxRecDepth 100000 in
set_option maxHeartbeats 8000000 in
theorem clsOf_any (va : Value) (l : List CV) (n : ByteArray) (w : World) (hl : Clss w va l) (hm : l.length ≤ 1048576) :
  Calls Tryz.prog 33 #[va, .string n] w (ClsOf w l n) := by
 obtain ⟨a, c, rfl⟩ := hl.val
 have HL := hid hl
 clear hl
 by_cases h1 : n = objB
 ·subst h1
  have HG : Hid (getL l objB = some objC) := hid rfl
  go_enter Tryz.func33, Tryz.ntmps33
  unfold objB
  go_wp2_with fail
  refine bodyPost_ret (results_cell_two rfl _ w _ _ _ rfl Tryz.underlying74 rfl (by kernel_rfl)) rfl ?_
  exact clsOf_some HG.out rfl (ext_alloc _ _)
 by_cases h2 : n = fltB
 ·subst h2
  have HG : Hid (getL l fltB = some fltC) := hid (by unfold getL; rw [if_neg (Ne.symm obj_flt), if_pos rfl])
  clear h1
  go_enter Tryz.func33, Tryz.ntmps33
  unfold fltB
  go_wp2_with fail
  refine bodyPost_ret (results_cell_two rfl _ w _ _ _ rfl Tryz.underlying74 rfl (by kernel_rfl)) rfl ?_
  exact clsOf_some HG.out rfl (ext_alloc _ _)
 have HG : Hid (getL l n = findF n l) := hid (by unfold getL; rw [if_neg h1, if_neg h2, find_F])
 obtain ⟨X1, hX1⟩ : ∃ X1, w.alloc (.cells #[.string { data := #[] }, .string { data := #[] }, .slice none 0 0, .bool false, .slice none 0 0, .slice none 0 0] 74) = X1 := ⟨_, rfl⟩
 have HB1 : Hid (Below w.heap.size w X1) := hid (hX1 ▸ ext_alloc _ _)
 have HR1 : Hid (X1.heap[w.heap.size]? = some (.cells #[.string { data := #[] }, .string { data := #[] }, .slice none 0 0, .bool false, .slice none 0 0, .slice none 0 0] 74)) := hid (hX1 ▸ heap_alloc_last _ _)
 have s1' : ¬ n.toList = [79, 98, 106, 101, 99, 116] := fun h => h1 (list_bytes h)
 have s2' : ¬ n.toList = [70, 97, 117, 108, 116] := fun h => h2 (list_bytes h)
 have s1 : (n.toList == [79, 98, 106, 101, 99, 116]) = false := beq_eq_false_iff_ne.2 s1'
 have s2 : (n.toList == [70, 97, 117, 108, 116]) = false := beq_eq_false_iff_ne.2 s2'
 clear h1 h2
 go_enter Tryz.func33, Tryz.ntmps33
 go_wp2_with fail
 go_loop [6] (fun i => ∃ k : Nat, k ≤ l.length ∧ i = .int .i64 k ∧ Hid (findF n l = findF n (l.drop k))) (fun i => l.length - (intOf i).toNat)
 case atStart => exact ⟨0, Nat.zero_le _, rfl, hid rfl⟩
 case round =>
  obtain ⟨k, hk, rfl, HP⟩ := hrel
  by_cases hlt : k < l.length
  ·obtain ⟨b, off, hab, hc0, hc1, hc2, hc3, hc4, hc5⟩ := cls_at (HL.out.below HB1.out) hlt
   subst hab
   have hi : (0 : Int) ≤ (k : Int) := by omega
   have hkl : (k : Int) < (l.length : Int) := by omega
   have HY := hid (fun h => HP.out.trans (findF_yes (n := n) hlt h))
   have HN := hid (fun h => HP.out.trans (findF_no (n := n) hlt h))
   obtain ⟨f1, f2, hvf⟩ := (HL.out.at_ _ (List.getElem_mem hlt)).faces.val
   obtain ⟨d1, d2, hvd⟩ := (HL.out.at_ _ (List.getElem_mem hlt)).fields.val
   obtain ⟨m1, m2, hvm⟩ := (HL.out.at_ _ (List.getElem_mem hlt)).mets.sl.val
   generalize l[k] = x at hc0 hc1 hc2 hc3 hc4 hc5 HY HN hvf hvd hvm
   obtain ⟨nm, sup, vf, face, vd, vm, faces, fields, mets⟩ := x
   simp only at hc0 hc1 hc2 hc3 hc4 hc5 hvf hvd hvm
   subst hvf hvd hvm
   by_cases h1 : nm = n
   ·have HZ := hid (HG.out.trans (HY.out h1))
    subst h1
    go_wp2_with (refine wpList_store_row rfl 74 (.tmp 4) (.tmp 31) rfl w.heap.size _ rfl rfl 74 _ HR1.out (by kernel_rfl) rfl (by simp [Value.oneCell']) ?_)
    refine bodyPost_ret (results_cell_at rfl _ _ w.heap.size _ _ _ _ rfl (setRow_heap _ _ _ _ _ _ HR1.out) Tryz.underlying74 rfl (by kernel_rfl)) rfl ?_
    exact clsOf_some HZ.out rfl (lib.below_setRow HB1.out (Nat.le_refl _) _)
   ·have s1 := str_neb h1
    have s3 : ¬ nm.toList = n.toList := by rw [beq_eq_false_iff_ne] at s1; exact s1
    have HP2 := hid (HN.out h1)
    clear h1
    go_wp2_with fail
    go_round
    case rel => exact ⟨k + 1, by omega, by go_num, HP2⟩
    case measure => simp [intOf]; omega
  ·have HZ : Hid (getL l n = none) := hid (HG.out.trans (HP.out.trans (findF_end hlt)))
   have hge : ¬ (k : Int) < (l.length : Int) := by omega
   go_wp2_with (refine wpList_store_row rfl 74 (.tmp 4) (.tmp 32) rfl w.heap.size _ rfl rfl 74 _ HR1.out (by kernel_rfl) rfl (by simp [Value.oneCell']) ?_)
   refine bodyPost_ret (results_cell_at rfl _ _ w.heap.size _ _ _ _ rfl (setRow_heap _ _ _ _ _ _ HR1.out) Tryz.underlying74 rfl (by kernel_rfl)) rfl ?_
   exact clsOf_none HZ.out rfl (lib.below_setRow HB1.out (Nat.le_refl _) _)
theorem nil_out {w w' : World} (hb : Below w.heap.size w w') (e : TypeId) (size : Nat) : Out w w' e size (.slice none 0 0) 0 [] := ⟨World.ownsRow_nil _ _ _ _, hb⟩
theorem nil_at (w : World) {size : Nat} : Sl w (.slice none 0 0) 0 size [] := ⟨by simp, none, 0, rfl, Nat.le_refl _, .inl rfl⟩
theorem bareC_at (w : World) (n s : ByteArray) : CV.At w { zeroC with nm := n, sup := s } := ⟨nil_at w, nil_at w, nil_at w, fun _ h => absurd h List.not_mem_nil⟩
theorem getL_at {w : World} {v : Value} {l : List CV} (h : Clss w v l) (n : ByteArray) : CV.At w ((getL l n).getD zeroC) := by
 cases hg : getL l n with
 | none => exact bareC_at w noB noB
 | some c =>
  rcases getL_mem hg with rfl | rfl | hm
  ·exact bareC_at w objB noB
  ·exact bareC_at w fltB objB
  ·exact h.at_ c hm
theorem getL_faces {l : List CV} (h : ∀ c ∈ l, c.faces.length ≤ 1048576) (n : ByteArray) : ((getL l n).getD zeroC).faces.length ≤ 1048576 := by
 cases hg : getL l n with
 | none => exact Nat.zero_le _
 | some c =>
  rcases getL_mem hg with rfl | rfl | hm
  ·exact Nat.zero_le _
  ·exact Nat.zero_le _
  ·exact h c hm
set_option maxRecDepth 100000 in
set_option maxHeartbeats 8000000 in
theorem rabove_any (va : Value) (l : List CV) (n : ByteArray) (w : World) (hl : Clss w va l) (hm : l.length ≤ 1048576) (hf : ∀ c ∈ l, c.faces.length ≤ 1048576) :
  Calls Tryz.prog 53 #[va, .string n] w fun e w' => ∃ v, e = .returned v ∧ Out w w' 9 1 v (aboveL l n).length ((aboveL l n).map .string) := by
 have HC := hid (clsOf_any va l n w hl hm)
 have HAT := hid (getL_at hl n)
 have hfl := getL_faces hf n
 obtain ⟨a, c, rfl⟩ := hl.val
 unfold ClsOf at HC
 have HZ : Hid (aboveL l n = aboveC ((getL l n).getD zeroC)) := hid rfl
 generalize (getL l n).isSome = is at HC
 generalize (getL l n).getD zeroC = x at HC HAT HZ hfl
 obtain ⟨nm, sup, vf, face, vd, vm, faces, fields, mets⟩ := x
 obtain ⟨f1, f2, hvf⟩ := HAT.out.faces.val
 obtain ⟨d1, d2, hvd⟩ := HAT.out.fields.val
 obtain ⟨m1, m2, hvm⟩ := HAT.out.mets.sl.val
 simp only at hvf hvd hvm hfl
 subst hvf hvd hvm
 have HFS : Hid (Sl w (.slice f1 faces.length f2) faces.length 1 (faces.map .string)) := hid HAT.out.faces
 generalize fields.length = nd at HC
 generalize mets.length = nt at HC
 have HC : Hid (Calls Tryz.prog 33 #[.slice a l.length c, .string n] w fun e w' => e = .returned (.tuple #[.agg #[.string nm, .string sup, .slice f1 faces.length f2, .bool face, .slice d1 nd d2, .slice m1 nt m2], .bool is]) ∧ Below w.heap.size w w') := hid HC.out
 clear HAT hl
 go_enter Tryz.func53, Tryz.ntmps53
 go_wp2_with fail
 refine HC.out.mono ?_
 rintro e w1 ⟨rfl, hb1⟩
 have HB1 := hid hb1
 clear hb1
 obtain ⟨B, hB⟩ : ∃ B, w1.heap.size = B := ⟨_, rfl⟩
 obtain ⟨W2, hW2⟩ : ∃ W2, w1.alloc (.cells #[.string nm, .string sup, .slice f1 faces.length f2, .bool face, .slice d1 nd d2, .slice m1 nt m2] 74) = W2 := ⟨_, rfl⟩
 have HR2 : Hid (W2.heap[B]? = some (.cells #[.string nm, .string sup, .slice f1 faces.length f2, .bool face, .slice d1 nd d2, .slice m1 nt m2] 74 (0, 0))) := hid (hW2 ▸ hB ▸ heap_alloc_new _ _)
 have HB2 : Hid (Below w.heap.size w W2) := hid (hW2 ▸ HB1.out.alloc HB1.out.size _)
 have hBlt : B < W2.heap.size := (Array.getElem?_eq_some_iff.1 HR2.out).1
 have q1 : W2.cell? ⟨B, 1, none⟩ = some (.string sup) := by rw [cell_of_row _ _ _ _ _ _ HR2.out]; rfl
 have q2 : W2.cell? ⟨B, 2, none⟩ = some (.slice f1 faces.length f2) := by rw [cell_of_row _ _ _ _ _ _ HR2.out]; rfl
 have HF2 : Hid (Sl W2 (.slice f1 faces.length f2) faces.length 1 (faces.map .string)) := hid (HFS.out.below HB2.out)
 by_cases h0 : sup = noB
 ·have h1 : sup.toList = [] := (noB_iff sup).1 h0
  have h2 : (sup.toList == []) = true := by rw [h1]; rfl
  have HZ2 : Hid (aboveL l n = faces) := hid (HZ.out.trans (if_pos h0))
  clear h0
  go_wp2_with (at_builtin; (refine wpList_append_src_at w W2 rfl _ _ 58 rfl 9 (.string { data := #[] }) 1 16 faces.length Tryz.underlying58 infoS rfl (by decide) _ _ _ (nil_out HB2.out _ _) rfl _ _ HF2.out rfl (by intro u hu; obtain ⟨z, _, rfl⟩ := List.mem_map.1 hu; rfl) (by omega) (by omega) ?_))
  intro v3 w3 ho3 _ _
  have HO3 := hid ho3
  clear ho3
  rw [← HZ2.out] at HO3
  obtain ⟨a3, c3, hv3⟩ := HO3.out.sl.val
  subst hv3
  go_wp2_with fail
  go_ret
  exact ⟨_, rfl, HO3.out⟩
 ·have h1 : ¬ sup.toList = [] := fun h => h0 ((noB_iff sup).2 h)
  have h2 : (sup.toList == []) = false := beq_eq_false_iff_ne.2 h1
  have HZ2 : Hid (aboveL l n = sup :: faces) := hid (HZ.out.trans (if_neg h0))
  clear h0
  go_wp2_with (at_builtin; refine wpList_append_lit_at w W2 _ rfl _ _ 58 rfl 9 (.string { data := #[] }) 1 16 1 Tryz.underlying58 infoS rfl (by decide) _ _ _ (nil_out HB2.out _ _) rfl rfl rfl ?_ ?_ ?_ ?_)
  all_goals first | (intro v3 w3 ho3 hg3 hat3) | omega | (simp [Value.oneCell']; done) | skip
  have HR3 : Hid (w3.heap[B]? = some (.cells #[.string nm, .string sup, .slice f1 faces.length f2, .bool face, .slice d1 nd d2, .slice m1 nt m2] 74 (0, 0))) := hid ((hg3.block B hBlt (fun e => by cases e)).trans HR2.out)
  have HO3 := hid ho3
  have HF3 : Hid (Sl w3 (.slice f1 faces.length f2) faces.length 1 (faces.map .string)) := hid (HFS.out.below ho3.below)
  clear ho3 hg3 hat3
  have q3 : w3.cell? ⟨B, 2, none⟩ = some (.slice f1 faces.length f2) := by rw [cell_of_row _ _ _ _ _ _ HR3.out]; rfl
  obtain ⟨a3, c3, hv3⟩ := HO3.out.sl.val
  subst hv3
  go_wp2_with (at_builtin; refine wpList_append_src_at w w3 rfl _ _ 58 rfl 9 (.string { data := #[] }) 1 16 faces.length Tryz.underlying58 infoS rfl (by decide) _ _ _ HO3.out rfl _ _ HF3.out rfl (by intro u hu; obtain ⟨z, _, rfl⟩ := List.mem_map.1 hu; rfl) (by omega) (by omega) ?_)
  intro v4 w4 ho4 _ _
  have HO4 : Hid (Out w w4 9 1 v4 (aboveL l n).length ((aboveL l n).map .string)) := hid (by
   have := ho4
   rw [HZ2.out, List.length_cons, Nat.add_comm]
   simpa using this)
  clear ho4
  obtain ⟨a4, c4, hv4⟩ := HO4.out.sl.val
  subst hv4
  go_wp2_with fail
  go_ret
  exact ⟨_, rfl, HO4.out⟩
end Go.Proofs.YtlhobhnbgdicjaaGreatDoor.worlds
namespace Go.Proofs.YtlhobhnbgdicjaaGreatDoor.worlds
open Go.RowKit lib maps classes errs descs names grow
structure SmallL (l : List CV) : Prop where
 len : l.length ≤ 1048576
 faces : ∀ c ∈ l, c.faces.length ≤ 1048576
 most : ∀ n, mostL l n ≤ 13000001
set_option maxRecDepth 100000 in
set_option maxHeartbeats 8000000 in
theorem rup_any (va : Value) (l : List CV) (n : ByteArray) (w : World) (hl : Clss w va l) (hs : SmallL l) :
  Calls Tryz.prog 36 #[va, .string n] w fun e w' => ∃ v, e = .returned v ∧ Out w w' 9 1 v (upAll l n).length ((upAll l n).map .string) := by
 obtain ⟨al, cl, rfl⟩ := hl.val
 have HL := hid hl
 have HS := hid hs
 clear hl hs
 go_enter Tryz.func36, Tryz.ntmps36
 go_wp2_with fail
 refine (rabove_any _ l n w HL.out HS.out.len HS.out.faces).mono ?_
 rintro e w1 ⟨v1, rfl, ho1⟩
 have HO1 : Hid (Out w w1 9 1 v1 (upR l n 0).length ((upR l n 0).map .string)) := hid ho1
 clear ho1
 go_wp2
 go_loopw [5, 6] (fun v5 v6 wr => ∃ i : Nat, i ≤ (upR l n i).length ∧ v6 = .int .i64 (i : Int) ∧ Hid (Out w wr 9 1 v5 (upR l n i).length ((upR l n i).map .string))) (fun _ v6 _ => mostL l n - (intOf v6).toNat)
 case atStart => exact ⟨0, Nat.zero_le _, rfl, HO1⟩
 case round =>
  obtain ⟨i, hi, rfl, HR⟩ := hrel
  clear HO1
  obtain ⟨wa, hwa⟩ : ∃ wa, wa = wr := ⟨_, rfl⟩
  subst hwa
  obtain ⟨R, hR⟩ : ∃ R, upR l n i = R := ⟨_, rfl⟩
  have HRR := hid hR
  have hml := Nat.le_trans (upR_most l n i) (HS.out.most n)
  rw [hR] at HR hi hml
  obtain ⟨av, cv, hav⟩ := HR.out.sl.val
  subst hav
  have hi0 : (0 : Int) ≤ (i : Int) := by omega
  by_cases hlt : i < R.length
  ·have hi1 : (i : Int) < (R.length : Int) := by omega
   obtain ⟨bx, ox, hax, hcx⟩ := text_at HR.out.sl hlt
   subst hax
   obtain ⟨a, ha⟩ : ∃ a, R[i] = a := ⟨_, rfl⟩
   rw [ha] at hcx
   have HA := hid ha
   have HLR := hid (HL.out.below HR.out.below)
   clear hR ha
   go_wp2_with fail
   refine (rabove_any _ l a _ HLR.out HS.out.len HS.out.faces).mono ?_
   rintro e w2 ⟨vA, rfl, hoa⟩
   have hAl : (aboveL l a).length ≤ 13000001 := by have := HS.out.most a; unfold mostL at this; omega
   obtain ⟨A, hA⟩ : ∃ A, aboveL l a = A := ⟨_, rfl⟩
   rw [hA] at hoa hAl
   have HAA := hid hA
   have HE0 : Hid (ERel w w2 R A 0 (.slice (some ⟨bx, ox, none⟩) R.length cv) vA) := hid (by
    refine ⟨?_, hoa.sl, fun hne g hg => ⟨fun e => ?_, (hoa.own.lt g hg).2⟩⟩
    ·rw [List.take_zero]
     exact HR.out.later hoa.below
    ·have h1 := HR.out.own.lt g e
     have h2 := hoa.own.lt g hg
     omega)
   obtain ⟨aA, cA, hvA⟩ := hoa.sl.val
   subst hvA
   clear hoa hA hcx
   have HST : Hid (upR l n (i + 1) = addAll R A) := hid (by
    show (match (upR l n i)[i]? with | some a => addAll (upR l n i) (aboveL l a) | none => upR l n i) = _
    rw [HRR.out, List.getElem?_eq_getElem hlt, HA.out]
    simp only [HAA.out])
   have hml2 : (addAll R A).length ≤ 13000001 := by rw [← HST.out]; exact Nat.le_trans (upR_most l n (i + 1)) (HS.out.most n)
   go_wp2
   go_loopw [5, 8] (fun v5 v8 wx => ∃ k : Nat, k ≤ A.length ∧ v8 = .int .i64 (k : Int) ∧ Hid (ERel w wx R A k v5 (.slice aA A.length cA))) (fun _ v8 _ => A.length - (intOf v8).toNat)
   case atStart => exact ⟨0, Nat.zero_le _, rfl, HE0⟩
   case round =>
    obtain ⟨k, hk, rfl, HE⟩ := hrel
    clear HE0
    by_cases hlt2 : k < A.length
    ·obtain ⟨by_, oy, hay, hcy⟩ := text_at HE.out.sla hlt2
     subst hay
     obtain ⟨x, hx⟩ : ∃ x, A[k] = x := ⟨_, rfl⟩
     rw [hx] at hcy
     obtain ⟨S, hS⟩ : ∃ S, addAll R (A.take k) = S := ⟨_, rfl⟩
     have HS1 : Hid (addAll R (A.take (k + 1)) = if inTexts x S = true then S else S ++ [x]) := hid (by rw [List.take_add_one, List.getElem?_eq_getElem hlt2, hx, ← hS]; exact add_snoc _ _ _)
     have hSl : S.length ≤ 13000001 := by
      have h1 := add_append (A.take k) (A.drop k) R
      rw [List.take_append_drop, hS] at h1
      have h2 := add_len S (A.drop k)
      rw [← h1] at h2
      omega
     have HOUT : Hid (Out w wr 9 1 u5 S.length (S.map .string)) := hid (by rw [← hS]; exact HE.out.out)
     obtain ⟨a5, c5, hu5⟩ := HOUT.out.sl.val
     subst hu5
     have hk0 : (0 : Int) ≤ (k : Int) := by omega
     have hk1 : (k : Int) < (A.length : Int) := by omega
     clear hx hS
     go_wp2_with fail
     refine (rin_any _ _ _ S x _ HOUT.out.sl (by omega)).mono ?_
     rintro e w3 ⟨rfl, rfl⟩
     by_cases hin : inTexts x S = true
     ·rw [hin]
      have HIN := hid hin
      clear hin
      go_wp2_with fail
      go_roundw
      case rel => exact ⟨k + 1, by omega, by simp, hid ⟨by rw [HS1.out, if_pos HIN.out]; exact HOUT.out, HE.out.sla, HE.out.ap⟩⟩
      case measure => simp [intOf]; omega
     ·have hinf : inTexts x S = false := by simpa using hin
      rw [hinf]
      have HIN := hid hinf
      clear hin hinf
      go_wp2_with (at_builtin; go_loud (refine wpList_append_lit_at w wr _ rfl _ _ 58 rfl 9 (.string { data := #[] }) 1 16 1 Tryz.underlying58 infoS rfl (by decide) _ _ _ HOUT.out rfl rfl rfl ?_ ?_ ?_ ?_))
      all_goals first | (intro v2 w2' ho2 hg2 hat2) | omega | (simp [Value.oneCell']; done) | skip
      have HE2 : Hid (ERel w w2' R A (k + 1) v2 (.slice (some ⟨by_, oy, none⟩) A.length cA)) := hid (by
       have hne : A ≠ [] := fun h => by rw [h] at hlt2; exact Nat.not_lt_zero _ hlt2
       refine ⟨?_, sl_keep HE.out.sla hg2 (fun g hg => (HE.out.ap hne g hg).1), fun _ g hg => ?_⟩
       ·have e1 : (addAll R (A.take (k + 1))) = S ++ [x] := by rw [HS1.out, if_neg (by rw [HIN.out]; simp)]
        rw [e1, List.length_append, List.map_append]
        exact ho2
       ·obtain ⟨h1, h2⟩ := HE.out.ap hne g hg
        have h3 := hg2.size
        refine ⟨fun e => ?_, by omega⟩
        rcases hat2 with h4 | ⟨q, h4, h5⟩
        ·rw [h4] at e; exact h1 e
        ·rw [h4] at e
         have := Option.some.inj e
         omega)
      clear ho2 hg2 hat2
      go_wp2_with fail
      go_roundw
      case rel => exact ⟨k + 1, by omega, by simp, HE2⟩
      case measure => simp [intOf]; omega
    ·obtain rfl : k = A.length := by omega
     have HN : Hid (Out w wr 9 1 u5 (upR l n (i + 1)).length ((upR l n (i + 1)).map .string)) := hid (by
      have := HE.out.out
      rw [List.take_length, ← HST.out] at this; exact this)
     have HNL : Hid (i + 1 ≤ (upR l n (i + 1)).length) := hid (by
      have h := add_len R A
      rw [← HST.out] at h; omega)
     have HML : Hid (i < mostL l n) := hid (by
      have := upR_most l n i
      rw [HRR.out] at this; omega)
     go_wp2_with fail
     go_roundw
     case rel => exact ⟨i + 1, HNL.out, by simp, HN⟩
     case measure => have := HML.out; simp [intOf]; omega
  ·have HU : Hid (R = upAll l n) := hid (by
    have h := upR_all (l := l) (n := n) (i := i) (by rw [hR]; omega) (by
     have := upR_most l n i
     rw [hR] at this; omega)
    rw [hR] at h; exact h)
   have hi1 : ¬ (i : Int) < (R.length : Int) := by omega
   clear hR
   go_wp2_with fail
   go_ret
   exact ⟨_, rfl, by rw [← HU.out]; exact HR.out⟩
theorem least_keep (lt : ByteArray → ByteArray → Bool) {out : List ByteArray} {m : ByteArray} {l : List ByteArray} {k : Nat} (hk : k < l.length) (h : ¬ (inTexts l[k] out = false ∧ (m = noB ∨ lt l[k] m = true))) : leastF lt out m (l.drop k) = leastF lt out m (l.drop (k + 1)) := by
 rw [List.drop_eq_getElem_cons hk, leastF, if_neg h]
theorem least_take (lt : ByteArray → ByteArray → Bool) {out : List ByteArray} {m : ByteArray} {l : List ByteArray} {k : Nat} (hk : k < l.length) (h : inTexts l[k] out = false ∧ (m = noB ∨ lt l[k] m = true)) : leastF lt out m (l.drop k) = leastF lt out l[k] (l.drop (k + 1)) := by
 rw [List.drop_eq_getElem_cons hk, leastF, if_pos h]
theorem least_end (lt : ByteArray → ByteArray → Bool) {out : List ByteArray} {m : ByteArray} {l : List ByteArray} {k : Nat} (hk : ¬ k < l.length) : leastF lt out m (l.drop k) = m := by
 rw [List.drop_eq_nil_of_le (by omega)]; rfl
def ltS (a b : ByteArray) : Bool := Op.bytesLess a.toList b.toList
set_option maxRecDepth 100000 in
set_option maxHeartbeats 8000000 in
theorem revery_any (va : Value) (l : List CV) (n : ByteArray) (w : World) (hl : Clss w va l) (hs : SmallL l) :
  Calls Tryz.prog 42 #[va, .string n] w fun e w' => ∃ v, e = .returned v ∧ Out w w' 9 1 v (selR ltS (n :: upAll l n) (n :: upAll l n).length).length ((selR ltS (n :: upAll l n) (n :: upAll l n).length).map .string) := by
 obtain ⟨al, cl, rfl⟩ := hl.val
 have HL := hid hl
 have HS := hid hs
 obtain ⟨b1, hb1⟩ : ∃ b1, w.heap.size = b1 := ⟨_, rfl⟩
 obtain ⟨W1, hW1⟩ : ∃ W1, w.alloc (.cells #[.string n] 9) = W1 := ⟨_, rfl⟩
 have HO1 : Hid (Out w W1 9 1 (.slice (some ⟨b1, 0, none⟩) 1 1) 1 [.string n]) := hid (hb1 ▸ hW1 ▸ out_one (Below.refl _ _) 9 (.string n))
 have hul : (upAll l n).length ≤ 13000001 := Nat.le_trans (upR_most l n _) (hs.most n)
 have HUP := hid (rup_any _ l n W1 (hl.below HO1.out.below) hs)
 obtain ⟨U, hU⟩ : ∃ U, upAll l n = U := ⟨_, rfl⟩
 rw [hU] at HUP hul
 rw [hU]
 obtain ⟨L, hL⟩ : ∃ L, n :: U = L := ⟨_, rfl⟩
 have HLL := hid hL
 rw [hL]
 clear hl hs hL hU
 go_enter Tryz.func42, Tryz.ntmps42
 go_wp2_with fail
 refine HUP.out.mono ?_
 rintro e w2 ⟨v2, rfl, ho2⟩
 have HO2 : Hid (Out w w2 9 1 (.slice (some ⟨b1, 0, none⟩) 1 1) 1 [.string n]) := hid (HO1.out.later ho2.below)
 have HSU := hid ho2.sl
 obtain ⟨a2, c2, hv2⟩ := ho2.sl.val
 subst hv2
 clear ho2 hW1 hb1
 go_wp2_with (at_builtin; refine wpList_append_src_at w w2 rfl _ _ 58 rfl 9 (.string { data := #[] }) 1 16 U.length Tryz.underlying58 infoS rfl (by decide) _ _ _ HO2.out rfl _ _ HSU.out rfl (by intro u hu; obtain ⟨z, _, rfl⟩ := List.mem_map.1 hu; rfl) (by omega) (by omega) ?_)
 intro v3 w3 ho3 _ _
 have HO3 : Hid (Out w w3 9 1 v3 L.length (L.map .string)) := hid (by
  have := ho3
  rw [← HLL.out, List.length_cons, Nat.add_comm]
  simpa using this)
 have hLl : L.length ≤ 13000002 := by rw [← HLL.out, List.length_cons]; omega
 clear ho3 HO2 HSU
 obtain ⟨a3, c3, hv3⟩ := HO3.out.sl.val
 subst hv3
 have HB3 := hid HO3.out.below
 have HSL := hid HO3.out.sl
 go_wp2
 clear HO3
 go_loopw [6] (fun v6 wr => ∃ k : Nat, k ≤ L.length ∧ Hid (Out w3 wr 9 1 v6 (selR ltS L k).length ((selR ltS L k).map .string))) (fun v6 _ => L.length - vlen v6)
 case atStart => exact ⟨0, Nat.zero_le _, hid (Out.nil _ _ _)⟩
 case round =>
  obtain ⟨k, hk, HR⟩ := hrel
  obtain ⟨wa, hwa⟩ : ∃ wa, wa = wr := ⟨_, rfl⟩
  subst hwa
  obtain ⟨R, hR⟩ : ∃ R, selR ltS L k = R := ⟨_, rfl⟩
  have hRl : R.length = k := by rw [← hR]; exact selR_len _ _ _
  have HRR := hid hR
  rw [hR, hRl] at HR
  obtain ⟨a6, c6, hu6⟩ := HR.out.sl.val
  subst hu6
  have hk0 : (0 : Int) ≤ (k : Int) := by omega
  clear hR
  by_cases hlt : k < L.length
  ·have hk1 : (k : Int) < (L.length : Int) := by omega
   have HS2 := hid (HSL.out.below HR.out.below)
   go_wp2_with fail
   go_loopw [7, 8] (fun v7 v8 wx => ∃ (m : ByteArray) (j : Nat), j ≤ L.length ∧ v8 = .int .i64 (j : Int) ∧ v7 = .string m ∧ wx = wa ∧ Hid (leastF ltS R noB L = leastF ltS R m (L.drop j))) (fun _ v8 _ => L.length - (intOf v8).toNat)
   case atStart => exact ⟨noB, 0, Nat.zero_le _, rfl, rfl, rfl, hid rfl⟩
   case round =>
    obtain ⟨m, j, hj, rfl, rfl, hwx, HM⟩ := hrel
    subst hwx
    by_cases hlt2 : j < L.length
    ·have hj0 : (0 : Int) ≤ (j : Int) := by omega
     have hj1 : (j : Int) < (L.length : Int) := by omega
     obtain ⟨bx, ox, hax, hcx⟩ := text_at HS2.out hlt2
     subst hax
     have HK := hid (fun h => HM.out.trans (least_keep ltS (m := m) (out := R) hlt2 h))
     have HT := hid (fun h => HM.out.trans (least_take ltS (m := m) (out := R) hlt2 h))
     generalize L[j] = x at hcx HK HT
     go_wp2_with fail
     refine (rin_any _ _ _ R x _ HR.out.sl (by omega)).mono ?_
     rintro e w4 ⟨rfl, rfl⟩
     cases hin : inTexts x R with
     | true =>
      have HZ := hid (HK.out (fun h => by rw [hin] at h; exact absurd h.1 (by decide)))
      clear hin
      go_wp2
      go_roundw
      case rel => exact ⟨m, j + 1, by omega, by simp, rfl, trivial, HZ⟩
      case measure => simp [intOf]; omega
     | false =>
      by_cases hm0 : m = noB
      ·have HZ := hid (HT.out ⟨hin, .inl hm0⟩)
       have g1 : m.toList = [] := (noB_iff m).1 hm0
       have g2 : (m.toList == []) = true := by rw [g1]; rfl
       clear hin hm0
       go_wp2
       go_roundw
       case rel => exact ⟨x, j + 1, by omega, by simp, rfl, trivial, HZ⟩
       case measure => simp [intOf]; omega
      ·have g1 : ¬ m.toList = [] := fun h => hm0 ((noB_iff m).2 h)
       have g2 : (m.toList == []) = false := beq_eq_false_iff_ne.2 g1
       cases g3 : Op.bytesLess x.toList m.toList with
       | true =>
        have HZ := hid (HT.out ⟨hin, .inr g3⟩)
        clear hin hm0
        go_wp2
        go_roundw
        case rel => exact ⟨x, j + 1, by omega, by simp, rfl, trivial, HZ⟩
        case measure => simp [intOf]; omega
       | false =>
        have HZ := hid (HK.out (fun h => by
         rcases h.2 with h | h
         ·exact hm0 h
         ·unfold ltS at h; rw [g3] at h; cases h))
        clear hin hm0
        go_wp2
        go_roundw
        case rel => exact ⟨m, j + 1, by omega, by simp, rfl, trivial, HZ⟩
        case measure => simp [intOf]; omega
    ·have HZ : Hid (selR ltS L (k + 1) = R ++ [m]) := hid (by
      rw [selR, HRR.out, HM.out, least_end ltS hlt2])
     have hge : ¬ (j : Int) < (L.length : Int) := by omega
     go_wp2_with (at_builtin; refine wpList_append_lit_at w3 wr _ rfl _ _ 58 rfl 9 (.string { data := #[] }) 1 16 1 Tryz.underlying58 infoS rfl (by decide) _ _ _ HR.out rfl rfl rfl ?_ ?_ ?_ ?_)
     all_goals first | (intro v2 w2' ho2 hg2 hat2) | omega | (simp [Value.oneCell']; done) | skip
     have HN : Hid (Out w3 w2' 9 1 v2 (selR ltS L (k + 1)).length ((selR ltS L (k + 1)).map .string)) := hid (by
      rw [HZ.out, List.length_append, hRl, List.map_append]
      exact ho2)
     have HVL : Hid (vlen v2 = k + 1) := hid (by
      obtain ⟨a, c, h⟩ := HN.out.sl.val
      rw [h]
      show (selR ltS L (k + 1)).length = k + 1
      exact selR_len _ _ _)
     clear ho2 hg2 hat2
     go_wp2_with fail
     go_roundw
     case rel => exact ⟨k + 1, by omega, HN⟩
     case measure => rw [HVL.out]; simp only [vlen]; omega
  ·obtain rfl : k = L.length := by omega
   have hge : ¬ (L.length : Int) < (L.length : Int) := by omega
   go_wp2_with fail
   go_ret
   exact ⟨_, rfl, Out.since HB3.out (by rw [HRR.out, hRl]; exact HR.out)⟩
end Go.Proofs.YtlhobhnbgdicjaaGreatDoor.worlds
namespace Go.Proofs.YtlhobhnbgdicjaaGreatDoor.worlds
open Go.RowKit lib maps classes errs descs names grow ins
theorem clsOf_parts (va : Value) (l : List CV) (n : ByteArray) (w : World) (hl : Clss w va l) (hm : l.length ≤ 1048576) :
  ∃ (x : CV) (f1 d1 m1 : Option Addr) (f2 d2 m2 : Nat), (getL l n).getD zeroC = x ∧ x.At w ∧ x.vf = .slice f1 x.faces.length f2 ∧ x.vd = .slice d1 x.fields.length d2 ∧
   Calls Tryz.prog 33 #[va, .string n] w fun e w' => e = .returned (.tuple #[.agg #[.string x.nm, .string x.sup, .slice f1 x.faces.length f2, .bool x.face, .slice d1 x.fields.length d2, .slice m1 x.mets.length m2], .bool (getL l n).isSome]) ∧ Below w.heap.size w w' := by
 have HC := clsOf_any va l n w hl hm
 have HA := getL_at hl n
 unfold ClsOf at HC
 generalize (getL l n).getD zeroC = x at HC HA
 obtain ⟨f1, f2, hvf⟩ := HA.faces.val
 obtain ⟨d1, d2, hvd⟩ := HA.fields.val
 obtain ⟨m1, m2, hvm⟩ := HA.mets.sl.val
 refine ⟨x, f1, d1, m1, f2, d2, m2, rfl, HA, hvf, hvd, ?_⟩
 unfold CV.cells at HC
 rw [hvf, hvd, hvm] at HC
 exact HC
theorem faceL_at (l : List CV) (c : CV) {k : Nat} (hk : k < (c.sup :: c.faces).length) : ∃ h : k < (withFaces c).length, (withFaces c)[k] = ((c.sup :: c.faces)[k], decide (0 < k)) := by
 have h : k < (withFaces c).length := by unfold withFaces; simpa using hk
 refine ⟨h, ?_⟩
 cases k with
 | zero => rfl
 | succ k => exact List.getElem_map (l := c.faces) (fun f => (f, true)) (i := k) (h := by rw [List.length_map]; simpa using hk)
set_option maxRecDepth 100000 in
set_option maxHeartbeats 16000000 in
theorem rjoin_any (va : Value) (l : List CV) (c : CV) (w : World) (hl : Clss w va l) (hm : l.length ≤ 1048576) (hc : c.At w) (hf : c.faces.length ≤ 1048576) :
  Calls Tryz.prog 34 #[va, .agg c.cells.toArray] w fun e w' => e = .returned (.int .i64 (joinL l c)) ∧ Below w.heap.size w w' := by
 obtain ⟨al, cl, rfl⟩ := hl.val
 have HL := hid hl
 have HFA : Hid (∀ k, (hk : k < (c.sup :: c.faces).length) → ∃ h : k < (withFaces c).length, (withFaces c)[k] = ((c.sup :: c.faces)[k], decide (0 < k))) := hid (fun k hk => faceL_at l c hk)
 have HWL : Hid ((withFaces c).length = (c.sup :: c.faces).length) := hid (by unfold withFaces; simp)
 obtain ⟨Z, hZ⟩ : ∃ Z, joinL l c = Z := ⟨_, rfl⟩
 have HZ : Hid ((if c.sup = noB then 1 else if firstF (isInL l) (c.sup :: c.faces) ≠ 0 then 3 else if firstF (faceL l) (withFaces c) ≠ 0 then 7 else if c.face = true ∧ c.sup ≠ objB then 7 else 0) = Z) := hid hZ
 rw [hZ]
 generalize withFaces c = WF at HFA HWL HZ
 obtain ⟨nm, sup, vf, face, vd, vm, faces, fields, mets⟩ := c
 obtain ⟨f1, f2, hvf⟩ := hc.faces.val
 obtain ⟨d1, d2, hvd⟩ := hc.fields.val
 obtain ⟨m1, m2, hvm⟩ := hc.mets.sl.val
 simp only at hvf hvd hvm hf HFA HWL HZ
 subst hvf hvd hvm
 have HFS : Hid (Sl w (.slice f1 faces.length f2) faces.length 1 (faces.map .string)) := hid hc.faces
 generalize fields.length = nd
 generalize mets.length = nt
 show Calls Tryz.prog 34 #[.slice al l.length cl, .agg #[.string nm, .string sup, .slice f1 faces.length f2, .bool face, .slice d1 nd d2, .slice m1 nt m2]] w _
 obtain ⟨B, hB⟩ : ∃ B, w.heap.size = B := ⟨_, rfl⟩
 obtain ⟨W1, hW1⟩ : ∃ W1, w.alloc (.cells #[.string nm, .string sup, .slice f1 faces.length f2, .bool face, .slice d1 nd d2, .slice m1 nt m2] 74) = W1 := ⟨_, rfl⟩
 have HR1 : Hid (W1.heap[B]? = some (.cells #[.string nm, .string sup, .slice f1 faces.length f2, .bool face, .slice d1 nd d2, .slice m1 nt m2] 74 (0, 0))) := hid (hW1 ▸ hB ▸ heap_alloc_new _ _)
 have HB1 : Hid (Below w.heap.size w W1) := hid (hW1 ▸ ext_alloc _ _)
 have hBlt : B < W1.heap.size := (Array.getElem?_eq_some_iff.1 HR1.out).1
 have q1 : W1.cell? ⟨B, 1, none⟩ = some (.string sup) := by rw [cell_of_row _ _ _ _ _ _ HR1.out]; rfl
 have q2 : W1.cell? ⟨B, 2, none⟩ = some (.slice f1 faces.length f2) := by rw [cell_of_row _ _ _ _ _ _ HR1.out]; rfl
 clear hl hc
 by_cases h0 : sup = noB
 ·have h1 : sup.toList = [] := (noB_iff sup).1 h0
  have h2 : (sup.toList == []) = true := by rw [h1]; rfl
  have HZ1 : Hid (1 = Z) := hid (by have := HZ.out; rwa [if_pos h0] at this)
  clear h0
  go_enter Tryz.func34, Tryz.ntmps34
  go_wp2
  go_ret
  rw [← HZ1.out]
  exact ⟨rfl, HB1.out⟩
 have h1 : ¬ sup.toList = [] := fun h => h0 ((noB_iff sup).2 h)
 have h2 : (sup.toList == []) = false := beq_eq_false_iff_ne.2 h1
 have HZ := hid HZ.out
 rw [if_neg h0] at HZ
 obtain ⟨W2, hW2⟩ : ∃ W2, W1.alloc (.cells #[.string sup] 9) = W2 := ⟨_, rfl⟩
 obtain ⟨b2, hb2⟩ : ∃ b2, W1.heap.size = b2 := ⟨_, rfl⟩
 have HO2 : Hid (Out w W2 9 1 (.slice (some ⟨b2, 0, none⟩) 1 1) 1 [.string sup]) := hid (hb2 ▸ hW2 ▸ out_one HB1.out 9 (.string sup))
 have HR2 : Hid (W2.heap[B]? = some (.cells #[.string nm, .string sup, .slice f1 faces.length f2, .bool face, .slice d1 nd d2, .slice m1 nt m2] 74 (0, 0))) := hid (((hW2 ▸ ext_alloc _ _ : Below W1.heap.size W1 W2).block B hBlt).trans HR1.out)
 have hlt2 : B < W2.heap.size := (Array.getElem?_eq_some_iff.1 HR2.out).1
 have hnb : b2 ≠ B := by omega
 have q2 : W2.cell? ⟨B, 2, none⟩ = some (.slice f1 faces.length f2) := by rw [cell_of_row _ _ _ _ _ _ HR2.out]; rfl
 have HF2 : Hid (Sl W2 (.slice f1 faces.length f2) faces.length 1 (faces.map .string)) := hid (HFS.out.below HO2.out.below)
 obtain ⟨A, hA⟩ : ∃ A, sup :: faces = A := ⟨_, rfl⟩
 have HAA := hid hA
 rw [hA] at HZ HFA HWL
 have hAl : A.length ≤ 1048577 := by rw [← hA, List.length_cons]; omega
 clear h0 hA
 go_enter Tryz.func34, Tryz.ntmps34
 go_wp2_with (at_builtin; (refine wpList_append_src_at w W2 rfl _ _ 58 rfl 9 (.string { data := #[] }) 1 16 faces.length Tryz.underlying58 infoS rfl (by decide) _ _ _ HO2.out rfl _ _ HF2.out rfl (by intro u hu; obtain ⟨z, _, rfl⟩ := List.mem_map.1 hu; rfl) (by omega) (by omega) ?_))
 intro v3 w3 ho3 hg3 _
 have HX : Hid (∀ u, Below w3.heap.size w3 u → u.cell? ⟨B, 1, none⟩ = some (.string sup) ∧ u.cell? ⟨B, 3, none⟩ = some (.bool face)) := hid (fun u hu => by
  have h := (hg3.block B hlt2 (fun e => hnb (Option.some.inj e.symm))).trans HR2.out
  have h4 := (hu.block B (Array.getElem?_eq_some_iff.1 h).1).trans h
  constructor <;> (rw [cell_of_row _ _ _ _ _ _ h4]; rfl))
 have HO3 : Hid (Out w w3 9 1 v3 A.length (A.map .string)) := hid (by
  have := ho3
  rw [← HAA.out, List.length_cons, Nat.add_comm]
  simpa using this)
 clear ho3 hg3 HO2 HF2 HR2 HR1 HAA hW1 hW2 hb2 q2 q1 hlt2 hnb hBlt
 obtain ⟨a3, c3, hv3⟩ := HO3.out.sl.val
 subst hv3
 have HB3 := hid HO3.out.below
 have HSA := hid HO3.out.sl
 clear HO3
 go_wp2
 go_loopw [6] (fun v6 wr => ∃ k : Nat, k ≤ A.length ∧ v6 = .int .i64 (k : Int) ∧ Hid (Below w3.heap.size w3 wr) ∧ Hid (firstF (isInL l) A = firstF (isInL l) (A.drop k))) (fun v6 _ => A.length - (intOf v6).toNat)
 case atStart => exact ⟨0, Nat.zero_le _, rfl, hid (Below.refl _ _), hid rfl⟩
 case round =>
  obtain ⟨k, hk, rfl, HBR, HP⟩ := hrel
  obtain ⟨wa, hwa⟩ : ∃ wa, wa = wr := ⟨_, rfl⟩
  subst hwa
  have hk0 : (0 : Int) ≤ (k : Int) := by omega
  by_cases hlt : k < A.length
  ·have hk1 : (k : Int) < (A.length : Int) := by omega
   obtain ⟨bx, ox, hax, hcx⟩ := text_at (HSA.out.below HBR.out) hlt
   subst hax
   have HY := hid (fun h => HP.out.trans (ff_no (f := isInL l) hlt h))
   have HN := hid (fun h => HP.out.trans (ff_ok (f := isInL l) hlt h))
   generalize A[k] = x at hcx HY HN
   have HLR := hid ((HL.out.below HB3.out).below HBR.out)
   obtain ⟨C, g1, e1, m1', g2, e2, m2', hC, _, _, _, hcall⟩ := clsOf_parts _ l x _ HLR.out hm
   have HCALL := hid hcall
   clear hcall hC
   cases his : (getL l x).isSome with
   | false =>
    have hns : ¬ isInL l x = 0 := by unfold isInL; rw [his, if_neg (by decide)]; decide
    have HZ3 : Hid (3 = Z) := hid (by
     have h5 := HY.out hns
     have h6 : isInL l x = 3 := by unfold isInL; rw [his, if_neg (by decide)]
     have := HZ.out
     rw [if_pos (by rw [h5, h6]; decide)] at this; exact this)
    rw [his] at HCALL
    clear hns his
    go_wp2_with fail
    refine HCALL.out.mono ?_
    rintro e w4 ⟨rfl, hb4⟩
    have HB4 := hid (HB3.out.trans ((HBR.out.trans (hb4.mono HBR.out.size)).mono HB3.out.size))
    clear hb4
    go_wp2_with fail
    go_ret
    rw [← HZ3.out]
    exact ⟨rfl, HB4.out.alloc HB4.out.size _⟩
   | true =>
    have hs0 : isInL l x = 0 := by unfold isInL; rw [his, if_pos rfl]
    have HP2 := hid (HN.out hs0)
    rw [his] at HCALL
    clear hs0 his
    go_wp2_with fail
    refine HCALL.out.mono ?_
    rintro e w4 ⟨rfl, hb4⟩
    have HB4 : Hid (Below w3.heap.size w3 w4) := hid (HBR.out.trans (hb4.mono HBR.out.size))
    clear hb4
    go_wp2_with fail
    go_roundw
    case rel => exact ⟨k + 1, by omega, by simp, hid (HB4.out.alloc HB4.out.size _), HP2⟩
    case measure => simp [intOf]; omega
  ·have hge : ¬ (k : Int) < (A.length : Int) := by omega
   have HZ4 : Hid ((if firstF (faceL l) WF ≠ 0 then 7 else if face = true ∧ sup ≠ objB then 7 else 0) = Z) := hid (by
    have := HZ.out
    rw [if_neg (by rw [HP.out, ff_end hlt]; decide)] at this; exact this)
   clear HP hlt hk hk0
   go_wp2_with fail
   go_loopw [9] (fun v9 wq => ∃ k : Nat, k ≤ A.length ∧ v9 = .int .i64 (k : Int) ∧ Hid (Below w3.heap.size w3 wq) ∧ Hid (firstF (faceL l) WF = firstF (faceL l) (WF.drop k))) (fun v9 _ => A.length - (intOf v9).toNat)
   case atStart => exact ⟨0, Nat.zero_le _, rfl, HBR, hid rfl⟩
   case round =>
    obtain ⟨k, hk, rfl, HBR, HP⟩ := hrel
    obtain ⟨wa, hwa⟩ : ∃ wa, wa = wr := ⟨_, rfl⟩
    subst hwa
    have hk0 : (0 : Int) ≤ (k : Int) := by omega
    by_cases hlt : k < A.length
    ·have hk1 : (k : Int) < (A.length : Int) := by omega
     obtain ⟨bx, ox, hax, hcx⟩ := text_at (HSA.out.below HBR.out) hlt
     subst hax
     obtain ⟨hkw, hkp⟩ := HFA.out k hlt
     have HY := hid (fun h => HP.out.trans (ff_no (f := faceL l) hkw h))
     have HN := hid (fun h => HP.out.trans (ff_ok (f := faceL l) hkw h))
     rw [hkp] at HY HN
     generalize A[k] = x at hcx HY HN
     have HLR := hid ((HL.out.below HB3.out).below HBR.out)
     obtain ⟨C, g1, e1, m1', g2, e2, m2', hC, _, _, _, hcall⟩ := clsOf_parts _ l x _ HLR.out hm
     have HCALL := hid hcall
     have HFC : Hid (faceL l (x, decide (0 < k)) = if C.face ≠ decide (0 < k) then 7 else 0) := hid (by unfold faceL; rw [hC])
     clear hcall hC hkp
     obtain ⟨fc, hfc⟩ : ∃ fc, C.face = fc := ⟨_, rfl⟩
     rw [hfc] at HCALL HFC
     clear hfc
     by_cases hf2 : fc ≠ decide (0 < k)
     ·have HZ5 : Hid (7 = Z) := hid (by
       have h6 := HFC.out
       rw [if_pos hf2] at h6
       have h5 := HY.out (by rw [h6]; decide)
       have := HZ4.out
       rw [if_pos (by rw [h5, h6]; decide)] at this; exact this)
      have hne : (!fc == decide (0 < k)) = true := by simpa using hf2
      clear hf2
      go_wp2_with fail
      refine HCALL.out.mono ?_
      rintro e w4 ⟨rfl, hb4⟩
      have HB4 := hid (HB3.out.trans ((HBR.out.trans (hb4.mono HBR.out.size)).mono HB3.out.size))
      clear hb4
      go_wp2_with fail
      go_ret
      rw [← HZ5.out]
      exact ⟨rfl, HB4.out.alloc HB4.out.size _⟩
     ·have HP2 := hid (HN.out (by rw [HFC.out, if_neg hf2]))
      have hne : (!fc == decide (0 < k)) = false := by simpa using hf2
      clear hf2
      go_wp2_with fail
      refine HCALL.out.mono ?_
      rintro e w4 ⟨rfl, hb4⟩
      have HB4 : Hid (Below w3.heap.size w3 w4) := hid (HBR.out.trans (hb4.mono HBR.out.size))
      clear hb4
      go_wp2_with fail
      go_roundw
      case rel => exact ⟨k + 1, by omega, by simp, hid (HB4.out.alloc HB4.out.size _), HP2⟩
      case measure => simp [intOf]; omega
    ·have hge : ¬ (k : Int) < (A.length : Int) := by omega
     have HZ5 : Hid ((if face = true ∧ sup ≠ objB then 7 else 0) = Z) := hid (by
      have := HZ4.out
      rw [if_neg (by rw [HP.out, ff_end (by rw [HWL.out]; exact hlt)]; decide)] at this; exact this)
     obtain ⟨x1, x3⟩ := HX.out _ HBR.out
     have HBE := hid (HB3.out.trans (HBR.out.mono HB3.out.size))
     clear HP HZ4 hlt
     cases face with
     | false =>
      have HZ6 : Hid (0 = Z) := hid (by have := HZ5.out; rwa [if_neg (by simp)] at this)
      go_wp2
      go_ret
      rw [← HZ6.out]
      exact ⟨rfl, by subst hB; exact HBE.out⟩
     | true =>
      by_cases hso : sup = objB
      ·have HZ6 : Hid (0 = Z) := hid (by have := HZ5.out; rwa [if_neg (by simp [hso])] at this)
       have ho1 : (sup.toList == [79, 98, 106, 101, 99, 116]) = true := by rw [hso, ByteArray.toList_eq]; rfl
       have ho2 : sup.toList = [79, 98, 106, 101, 99, 116] := by simpa using ho1
       clear hso
       go_wp2
       go_ret
       rw [← HZ6.out]
       exact ⟨rfl, by subst hB; exact HBE.out⟩
      ·have HZ6 : Hid (7 = Z) := hid (by have := HZ5.out; rwa [if_pos ⟨rfl, hso⟩] at this)
       have ho2 : ¬ sup.toList = [79, 98, 106, 101, 99, 116] := fun h => hso (list_bytes h)
       have ho1 : (sup.toList == [79, 98, 106, 101, 99, 116]) = false := beq_eq_false_iff_ne.2 ho2
       clear hso
       go_wp2
       go_ret
       rw [← HZ6.out]
       exact ⟨rfl, by subst hB; exact HBE.out⟩
end Go.Proofs.YtlhobhnbgdicjaaGreatDoor.worlds
namespace Go.Proofs.YtlhobhnbgdicjaaGreatDoor.worlds
open Go.RowKit lib maps classes errs descs names grow ins
section
variable {P : Program}
theorem step_store_all {ops : Array Oper} {o : Oper} {a : Act} {w : World} {K : Act → World → Prop} {Q : Exit → Act → World → Prop} {E : Prop} (hgd : o.guard = none) (ty : TypeId) (x y : Operand) (ho : o.op = .store ty x y)
  (g : Nat) (cells : Array Value) (hx : a.eval x = .pointer (some ⟨g, 0, none⟩)) (hy : a.eval y = .agg cells)
  (t : TypeId) (cur : Array Value) (hg : w.heap[g]? = some (.cells cur t (0, 0))) (hi : (P.info? ty).map (·.size) = some cells.size) (hl : 0 + cells.size ≤ cur.size) (h1 : ∀ v ∈ cells.toList, v.oneCell' = true)
  (h : ∀ new : Array Value, K (a.put o.dst undef) (w.setRow g new)) : if Region.wanted o (yielded ops a.tmps) = true then Oper.wp P o a w K Q else E := by
 have hw : Region.wanted o (yielded ops a.tmps) = true := by simp [Region.wanted, hgd]
 rw [if_pos hw]
 have hst := run_storeCells_at (P := P) g 0 t cells.toList 0 cur w hg (by simpa using hl) h1
 obtain ⟨new, hnew⟩ : ∃ new, (cur.toList.take (0 + 0) ++ cells.toList ++ cur.toList.drop (0 + 0 + cells.toList.length)).toArray = new := ⟨_, rfl⟩
 rw [hnew] at hst
 have hsv : (storeVar ty ⟨g, 0, none⟩ (.agg cells)).run P w = .ok () (w.setRow g new) := by
  cases hq : P.info? ty with
  | none => simp [hq] at hi
  | some i =>
   have hs : cells.size = i.size := by simp [hq] at hi; omega
   simp [storeVar, sizeOf, typeInfo, hq, Value.cells, hs, hst]
 unfold Oper.wp execOp
 simp only [ho, hx, hy, Instr.storeAt, Instr.sureAddr, Sem.run_bind, Sem.run_pure, Result.andThen_ok, hsv]
 exact h new
end
theorem flat_take {T : Type} {cells : T → List Value} {sz : Nat} (hlen : ∀ x, (cells x).length = sz) : ∀ (l : List T) (k : Nat), (l.take k).flatMap cells = (l.flatMap cells).take (k * sz)
 | [], k => by simp
 | x :: l, 0 => by simp
 | x :: l, k + 1 => by
  have h1 : (k + 1) * sz = (cells x).length + k * sz := by rw [hlen, Nat.succ_mul, Nat.add_comm]
  rw [List.take_succ_cons, List.flatMap_cons, List.flatMap_cons, flat_take hlen l k, h1, List.take_append, List.take_of_length_le (l := cells x) (by omega), Nat.add_sub_cancel_left]
theorem clss_take {w : World} {a : Option Addr} {c : Nat} {l : List CV} (h : Clss w (.slice a l.length c) l) {k : Nat} (hk : k ≤ l.length) : Clss w (.slice a k c) (l.take k) := by
 have e : (l.take k).length = k := by rw [List.length_take]; omega
 refine ⟨?_, fun x hx => h.at_ x (List.mem_of_mem_take hx)⟩
 rw [e, flat_take (sz := 6) (fun _ => rfl)]
 exact h.sl.take k hk
theorem small_L {l : List CV} (h10 : l.length ≤ 10) (h : ∀ c ∈ l, SmallC c) : SmallL l := by
 have hf : ∀ c ∈ l, c.faces.length ≤ 1048576 := fun c hc => (h c hc).flen
 have ha : ∀ c : CV, c.faces.length ≤ 1048576 → (aboveC c).length ≤ 1048577 := fun c hc => by
  unfold aboveC
  split
  ·omega
  ·rw [List.length_cons]; omega
 have hsum : ∀ (m : List CV), (∀ c ∈ m, c.faces.length ≤ 1048576) → (m.flatMap aboveC).length ≤ m.length * 1048577 := by
  intro m
  induction m with
  | nil => intro _; simp
  | cons c m ih =>
   intro hm
   have h1 := ih (fun d hd => hm d (List.mem_cons_of_mem _ hd))
   have h2 := ha c (hm c (List.mem_cons_self ..))
   rw [List.flatMap_cons, List.length_append, List.length_cons, Nat.succ_mul]
   omega
 refine ⟨by omega, hf, fun n => ?_⟩
 have h1 := hsum l hf
 have h2 := ha _ (getL_faces hf n)
 unfold mostL namesL
 rw [List.length_cons]
 have h3 : (aboveL l n).length ≤ 1048577 := h2
 omega
set_option maxRecDepth 100000 in
set_option maxHeartbeats 16000000 in
theorem rworld_any (va : Value) (l : List CV) (w : World) (hl : Clss w va l) (hsm : ∀ c ∈ l, SmallC c) (hn : l.length ≤ 1048576) :
  Calls Tryz.prog 21 #[va] w fun e w' => e = .returned (.int .i64 (worldL l)) ∧ Below w.heap.size w w' := by
 obtain ⟨a, cap, rfl⟩ := hl.val
 have HL := hid hl; have HSM := hid hsm
 have HCAP : Hid (l.length ≤ cap) := hid (by obtain ⟨_, a', c', h1, h2, _⟩ := hl.sl; cases h1; exact h2)
 obtain ⟨Z, hZ⟩ : ∃ Z, worldL l = Z := ⟨_, rfl⟩
 have HZ : Hid ((if 10 < l.length then 4 else if loadR [] l ≠ 0 then loadR [] l else if firstF (joinL l) l ≠ 0 then firstF (joinL l) l else firstF (roundL l) l) = Z) := hid hZ
 rw [hZ]
 clear hl hsm
 by_cases h10 : 10 < l.length
 ·have HZ1 : Hid (4 = Z) := hid (by have := HZ.out; rwa [if_pos h10] at this)
  have h1 : (10 : Int) < (l.length : Int) := by omega
  clear h10 hZ
  go_enter Tryz.func21, Tryz.ntmps21
  go_wp2
  go_ret
  rw [← HZ1.out]
  exact ⟨rfl, Below.refl _ _⟩
 have HZ : Hid ((if loadR [] l ≠ 0 then loadR [] l else if firstF (joinL l) l ≠ 0 then firstF (joinL l) l else firstF (roundL l) l) = Z) := hid (by have := HZ.out; rwa [if_neg h10] at this)
 have h1 : ¬ (10 : Int) < (l.length : Int) := by omega
 have hl10 : l.length ≤ 10 := by omega
 have HS := hid (small_L hl10 HSM.out)
 clear h10 hZ
 go_enter Tryz.func21, Tryz.ntmps21
 go_wp2
 go_loopw [3] (fun v wr => ∃ k : Nat, k ≤ l.length ∧ v = .int .i64 (k : Int) ∧ Hid (Below w.heap.size w wr) ∧ Hid (loadR [] l = loadR (l.take k) (l.drop k))) (fun v _ => l.length - (intOf v).toNat)
 case atStart => exact ⟨0, Nat.zero_le _, rfl, hid (Below.refl _ _), hid rfl⟩
 case round =>
  obtain ⟨k, hk, rfl, HR, HP⟩ := hrel
  obtain ⟨wa, hwa⟩ : ∃ wa, wa = wr := ⟨_, rfl⟩
  subst hwa
  have hk0 : (0 : Int) ≤ (k : Int) := by omega
  by_cases hlt : k < l.length
  ·have hk1 : (k : Int) < (l.length : Int) := by omega
   have hkc : (k : Int) ≤ (cap : Int) := by have := HCAP.out; omega
   obtain ⟨bb, off, hab, hd0, hd1, hd2, hd3, hd4, hd5⟩ := cls_at (HL.out.below HR.out) hlt
   subst hab
   have hcat : l[k].At w := HL.out.at_ _ (List.getElem_mem hlt)
   have hcs : SmallC l[k] := HSM.out _ (List.getElem_mem hlt)
   have HBD := hid (fun h => HP.out.trans (loadR_bad hlt h))
   have HT := hid (fun h h2 => HP.out.trans (loadR_twice hlt h h2))
   have HO := hid (fun h h2 => HP.out.trans (loadR_ok hlt h h2))
   generalize l[k] = c at hd0 hd1 hd2 hd3 hd4 hd5 hcat hcs HBD HT HO
   have HC := hid hcat; have HCS := hid hcs
   obtain ⟨nm, sup, vf, face, vd, vm, faces, fields, mets⟩ := c
   obtain ⟨a1, c1, a2, c2, a3, c3, e1, e2, e3⟩ := cls_vals hcat
   simp only at e1 e2 e3 hd0 hd1 hd2 hd3 hd4 hd5
   subst e1 e2 e3
   clear hcat hcs
   have HCHK := hid (rcls_any ⟨nm, sup, .slice a1 faces.length c1, face, .slice a2 fields.length c2, .slice a3 mets.length c3, faces, fields, mets⟩ wa (HC.out.below HR.out) HCS.out)
   obtain ⟨z, hz⟩ : ∃ z, clsFault ⟨nm, sup, .slice a1 faces.length c1, face, .slice a2 fields.length c2, .slice a3 mets.length c3, faces, fields, mets⟩ = z := ⟨_, rfl⟩
   rw [hz] at HCHK HBD HT HO
   clear hz
   go_wp2_with fail
   refine HCHK.out.mono ?_
   rintro e w4 ⟨rfl, hb4⟩
   have H4 := hid hb4
   have HB4 := hid (HR.out.trans (hb4.mono HR.out.size))
   clear hb4
   by_cases h0 : z = 0
   ·subst h0
    obtain ⟨wd, hwd⟩ : ∃ wd, w4.drew = wd := ⟨_, rfl⟩
    have HD4 : Hid (Below w4.heap.size w4 wd) := hid (hwd ▸ (Below.refl _ _).drew)
    have HBd := hid (HB4.out.trans (HD4.out.mono HB4.out.size))
    have HXD : Hid (∀ u, Below wd.heap.size wd u → u.cell? ⟨bb, off + k * 6, none⟩ = some (.string nm)) := hid (fun u hu => by
     have h4 : Below wa.heap.size wa u := (H4.out.trans (HD4.out.mono H4.out.size)).trans (hu.mono (Nat.le_trans H4.out.size HD4.out.size))
     rw [h4.cell (p := ⟨bb, off + k * 6, none⟩) (World.block_lt_of_cell? wa _ hd0)]; exact hd0)
    have hdd := HXD.out wd (Below.refl _ _)
    have HCALL : Hid (∀ u, Below wd.heap.size wd u → ∃ (C : CV) (f1 d1 m1 : Option Addr) (f2 d2 m2 : Nat), Calls Tryz.prog 33 #[.slice (some ⟨bb, off, none⟩) k cap, .string nm] u fun e w' => e = .returned (.tuple #[.agg #[.string C.nm, .string C.sup, .slice f1 C.faces.length f2, .bool C.face, .slice d1 C.fields.length d2, .slice m1 C.mets.length m2], .bool (getL (l.take k) nm).isSome]) ∧ Below u.heap.size u w') := hid (fun u hu => by
     have h5 := (HL.out.below HBd.out).below hu
     obtain ⟨C, f1, d1, m1, f2, d2, m2, _, _, _, _, h⟩ := clsOf_parts _ (l.take k) nm u (clss_take h5 hk) (by rw [List.length_take]; omega)
     exact ⟨C, f1, d1, m1, f2, d2, m2, h⟩)
    obtain ⟨is, his⟩ : ∃ is, (getL (l.take k) nm).isSome = is := ⟨_, rfl⟩
    rw [his] at HCALL HT HO
    clear his
    cases is with
    | true =>
     go_wp2_with fail
     refine wp_region_s (fun u => u.cell? ⟨bb, off + k * 6, none⟩ = some (.string nm)) 8 (by kernel_rfl) ?_
     show grow.wpAnyS _ _ _ _ _ _ _ _ _ w4.drew
     rw [hwd]
     refine s_calc 0 _ _ rfl (by kernel_rfl) (by kernel_rfl) (by kernel_rfl) (by kernel_rfl) (by decide) rfl (fun c a' w' h => ⟨(putS_defers _ _ _).symm.trans h.1, h.2⟩) (fun _ => hdd) (fun u => by go_simp; rfl) ?_
     simp only [List.getElem_toArray, List.getElem_cons_zero, List.getElem_cons_succ, Act.put, List.setIfInBounds_toArray, List.set_cons_zero, List.set_cons_succ]
     refine s_calc 1 _ _ rfl (by kernel_rfl) (by kernel_rfl) (by kernel_rfl) (by kernel_rfl) (by decide) rfl (fun c a' w' h => ⟨(putS_defers _ _ _).symm.trans h.1, h.2⟩) (fun _ => hdd) (fun u => by go_simp; rfl) ?_
     simp only [List.getElem_toArray, List.getElem_cons_zero, List.getElem_cons_succ, Act.put, List.setIfInBounds_toArray, List.set_cons_zero, List.set_cons_succ]
     refine s_calc 2 _ _ rfl (by kernel_rfl) (by kernel_rfl) (by kernel_rfl) (by kernel_rfl) (by decide) rfl (fun c a' w' h => ⟨(putS_defers _ _ _).symm.trans h.1, h.2⟩) (fun _ => hdd) (fun u => by go_simp; rfl) ?_
     simp only [List.getElem_toArray, List.getElem_cons_zero, List.getElem_cons_succ, Act.put, List.setIfInBounds_toArray, List.set_cons_zero, List.set_cons_succ]
     refine s_calc 3 _ _ rfl (by kernel_rfl) (by kernel_rfl) (by kernel_rfl) (by kernel_rfl) (by decide) rfl (fun c a' w' h => ⟨(putS_defers _ _ _).symm.trans h.1, h.2⟩) (fun _ => hdd) (fun u => by go_simp; rfl) ?_
     simp only [List.getElem_toArray, List.getElem_cons_zero, List.getElem_cons_succ, Act.put, List.setIfInBounds_toArray, List.set_cons_zero, List.set_cons_succ]
     refine s_calc 4 _ _ rfl (by kernel_rfl) (by kernel_rfl) (by kernel_rfl) (by kernel_rfl) (by decide) rfl (fun c a' w' h => ⟨(putS_defers _ _ _).symm.trans h.1, h.2⟩) (fun _ => hdd) (fun u => by go_simp; rfl) ?_
     simp only [List.getElem_toArray, List.getElem_cons_zero, List.getElem_cons_succ, Act.put, List.setIfInBounds_toArray, List.set_cons_zero, List.set_cons_succ]
     refine s_calc 5 _ _ rfl (by kernel_rfl) (by kernel_rfl) (by kernel_rfl) (by kernel_rfl) (by decide) rfl (fun c a' w' h => ⟨(putS_defers _ _ _).symm.trans h.1, h.2⟩) (fun _ => hdd) (fun u => by go_simp; rfl) ?_
     simp only [List.getElem_toArray, List.getElem_cons_zero, List.getElem_cons_succ, Act.put, List.setIfInBounds_toArray, List.set_cons_zero, List.set_cons_succ]
     refine s_calc 6 _ _ rfl (by kernel_rfl) (by kernel_rfl) (by kernel_rfl) (by kernel_rfl) (by decide) rfl (fun c a' w' h => ⟨(putS_defers _ _ _).symm.trans h.1, h.2⟩) (fun _ => hdd) (fun u => by go_simp; rfl) ?_
     simp only [List.getElem_toArray, List.getElem_cons_zero, List.getElem_cons_succ, Act.put, List.setIfInBounds_toArray, List.set_cons_zero, List.set_cons_succ]
     refine s_take 7 _ _ rfl (by kernel_rfl) (by kernel_rfl) (by kernel_rfl) (by kernel_rfl) (by kernel_rfl) (by decide) rfl (fun c a' w' h => ⟨(putS_defers _ _ _).symm.trans h.1, h.2⟩) (fun _ => hdd) (fun u hu => by go_simp; rfl) ?_
     simp only [List.getElem_toArray, List.getElem_cons_zero, List.getElem_cons_succ, Act.put, List.setIfInBounds_toArray, List.set_cons_zero, List.set_cons_succ]
     refine s_two 8 12 _ _ rfl rfl (by kernel_rfl) ?_ ?_
     ·go_simp
      obtain ⟨C, f1, d1, m1, f2, d2, m2, hcall⟩ := HCALL.out wd (Below.refl _ _)
      refine hcall.mono ?_
      rintro e wz ⟨rfl, hbz⟩
      have HBZ := hid (HBd.out.trans (hbz.mono HBd.out.size))
      refine ⟨fun _ => HXD.out wz hbz, ?_⟩
      try simp only [List.getElem_toArray, List.getElem_cons_zero, List.getElem_cons_succ, Act.put, List.setIfInBounds_toArray, List.set_cons_zero, List.set_cons_succ]
      clear hcall hbz
      refine s_calc 9 _ _ rfl (by kernel_rfl) (by kernel_rfl) (by kernel_rfl) (by kernel_rfl) (by decide) rfl (fun c a' w' h => ⟨(putS_defers _ _ _).symm.trans h.1, h.2⟩) (fun h => absurd h (by decide)) (fun u => by go_simp; rfl) ?_
      simp only [List.getElem_toArray, List.getElem_cons_zero, List.getElem_cons_succ, Act.put, List.setIfInBounds_toArray, List.set_cons_zero, List.set_cons_succ]
      refine s_calc 10 _ _ rfl (by kernel_rfl) (by kernel_rfl) (by kernel_rfl) (by kernel_rfl) (by decide) rfl (fun c a' w' h => ⟨(putS_defers _ _ _).symm.trans h.1, h.2⟩) (fun h => absurd h (by decide)) (fun u => by go_simp; rfl) ?_
      simp only [List.getElem_toArray, List.getElem_cons_zero, List.getElem_cons_succ, Act.put, List.setIfInBounds_toArray, List.set_cons_zero, List.set_cons_succ]
      refine s_calc 11 _ _ rfl (by kernel_rfl) (by kernel_rfl) (by kernel_rfl) (by kernel_rfl) (by decide) rfl (fun c a' w' h => ⟨(putS_defers _ _ _).symm.trans h.1, h.2⟩) (fun h => absurd h (by decide)) (fun u => by go_simp; rfl) ?_
      simp only [List.getElem_toArray, List.getElem_cons_zero, List.getElem_cons_succ, Act.put, List.setIfInBounds_toArray, List.set_cons_zero, List.set_cons_succ]
      refine s_only 12 _ rfl (by kernel_rfl) ?_
      obtain ⟨wy, hwy⟩ : ∃ wy, wz.alloc (.cells #[.string { data := #[] }, .string { data := #[] }, .slice none 0 0, .bool false, .slice none 0 0, .slice none 0 0] 74) = wy := ⟨_, rfl⟩
      obtain ⟨bz, hbz⟩ : ∃ bz, wz.heap.size = bz := ⟨_, rfl⟩
      have HRY : Hid (wy.heap[bz]? = some (.cells #[.string { data := #[] }, .string { data := #[] }, .slice none 0 0, .bool false, .slice none 0 0, .slice none 0 0] 74 (0, 0))) := hid (hwy ▸ hbz ▸ heap_alloc_new _ _)
      have HBY : Hid (Below w.heap.size w wy) := hid (hwy ▸ HBZ.out.alloc HBZ.out.size _)
      have HLE : Hid (w.heap.size ≤ bz) := hid (hbz ▸ HBZ.out.size)
      go_simp
      try rw [hwy, hbz]
      refine ⟨fun h => absurd h (by decide), ?_⟩
      try simp only [List.getElem_toArray, List.getElem_cons_zero, List.getElem_cons_succ, Act.put, List.setIfInBounds_toArray, List.set_cons_zero, List.set_cons_succ]
      refine s_only 13 _ rfl (by kernel_rfl) ?_
      refine step_store_all rfl 74 (.tmp 5) (.tmp 37) rfl bz _ rfl rfl 74 _ HRY.out (by kernel_rfl) (by simp) (by simp [Value.oneCell']) ?_
      intro new
      refine ⟨fun h => absurd h (by decide), ?_⟩
      try simp only [List.getElem_toArray, List.getElem_cons_zero, List.getElem_cons_succ, Act.put, List.setIfInBounds_toArray, List.set_cons_zero, List.set_cons_succ]
      refine s_calc 14 _ _ rfl (by kernel_rfl) (by kernel_rfl) (by kernel_rfl) (by kernel_rfl) (by decide) rfl (fun c a' w' h => ⟨(putS_defers _ _ _).symm.trans h.1, h.2⟩) (fun h => absurd h (by decide)) (fun u => by go_simp; rfl) ?_
      simp only [List.getElem_toArray, List.getElem_cons_zero, List.getElem_cons_succ, Act.put, List.setIfInBounds_toArray, List.set_cons_zero, List.set_cons_succ]
      refine s_end (by kernel_rfl) ?_
      have HBE := hid (lib.below_setRow HBY.out HLE.out new)
      have HZ1 : Hid (5 = Z) := hid (by
       have h5 := HT.out (by simp) (by simp)
       have := HZ.out
       rw [h5, if_pos (by decide)] at this; exact this)
      go_wp2
      go_ret
      rw [← HZ1.out]
      exact ⟨rfl, HBE.out⟩
     ·obtain ⟨wy0, hwy0⟩ : ∃ wy0, wd.alloc (.cells #[.string { data := #[] }, .string { data := #[] }, .slice none 0 0, .bool false, .slice none 0 0, .slice none 0 0] 74) = wy0 := ⟨_, rfl⟩
      obtain ⟨bz, hbz⟩ : ∃ bz, wd.heap.size = bz := ⟨_, rfl⟩
      have HRY0 : Hid (wy0.heap[bz]? = some (.cells #[.string { data := #[] }, .string { data := #[] }, .slice none 0 0, .bool false, .slice none 0 0, .slice none 0 0] 74 (0, 0))) := hid (hwy0 ▸ hbz ▸ heap_alloc_new _ _)
      have HDY : Hid (Below wd.heap.size wd wy0) := hid (hwy0 ▸ ext_alloc _ _)
      have HLE : Hid (w.heap.size ≤ bz) := hid (hbz ▸ HBd.out.size)
      have HBY0 := hid (HBd.out.trans (HDY.out.mono HBd.out.size))
      go_simp
      try rw [hwy0, hbz]
      refine ⟨fun _ => HXD.out wy0 HDY.out, ?_⟩
      try simp only [List.getElem_toArray, List.getElem_cons_zero, List.getElem_cons_succ, Act.put, List.setIfInBounds_toArray, List.set_cons_zero, List.set_cons_succ]
      refine s_only 8 _ rfl (by kernel_rfl) ?_
      go_simp
      obtain ⟨C, f1, d1, m1, f2, d2, m2, hcall⟩ := HCALL.out wy0 HDY.out
      refine hcall.mono ?_
      rintro e wy ⟨rfl, hby⟩
      have HRY := hid ((hby.block bz (Array.getElem?_eq_some_iff.1 HRY0.out).1).trans HRY0.out)
      have HBY := hid (HBY0.out.trans (hby.mono HBY0.out.size))
      refine ⟨fun h => absurd h (by decide), ?_⟩
      try simp only [List.getElem_toArray, List.getElem_cons_zero, List.getElem_cons_succ, Act.put, List.setIfInBounds_toArray, List.set_cons_zero, List.set_cons_succ]
      clear hcall hby
      refine s_calc 9 _ _ rfl (by kernel_rfl) (by kernel_rfl) (by kernel_rfl) (by kernel_rfl) (by decide) rfl (fun c a' w' h => ⟨(putS_defers _ _ _).symm.trans h.1, h.2⟩) (fun h => absurd h (by decide)) (fun u => by go_simp; rfl) ?_
      simp only [List.getElem_toArray, List.getElem_cons_zero, List.getElem_cons_succ, Act.put, List.setIfInBounds_toArray, List.set_cons_zero, List.set_cons_succ]
      refine s_calc 10 _ _ rfl (by kernel_rfl) (by kernel_rfl) (by kernel_rfl) (by kernel_rfl) (by decide) rfl (fun c a' w' h => ⟨(putS_defers _ _ _).symm.trans h.1, h.2⟩) (fun h => absurd h (by decide)) (fun u => by go_simp; rfl) ?_
      simp only [List.getElem_toArray, List.getElem_cons_zero, List.getElem_cons_succ, Act.put, List.setIfInBounds_toArray, List.set_cons_zero, List.set_cons_succ]
      refine s_calc 11 _ _ rfl (by kernel_rfl) (by kernel_rfl) (by kernel_rfl) (by kernel_rfl) (by decide) rfl (fun c a' w' h => ⟨(putS_defers _ _ _).symm.trans h.1, h.2⟩) (fun h => absurd h (by decide)) (fun u => by go_simp; rfl) ?_
      simp only [List.getElem_toArray, List.getElem_cons_zero, List.getElem_cons_succ, Act.put, List.setIfInBounds_toArray, List.set_cons_zero, List.set_cons_succ]
      refine s_only 13 _ rfl (by kernel_rfl) ?_
      refine step_store_all rfl 74 (.tmp 5) (.tmp 37) rfl bz _ rfl rfl 74 _ HRY.out (by kernel_rfl) (by simp) (by simp [Value.oneCell']) ?_
      intro new
      refine ⟨fun h => absurd h (by decide), ?_⟩
      try simp only [List.getElem_toArray, List.getElem_cons_zero, List.getElem_cons_succ, Act.put, List.setIfInBounds_toArray, List.set_cons_zero, List.set_cons_succ]
      refine s_calc 14 _ _ rfl (by kernel_rfl) (by kernel_rfl) (by kernel_rfl) (by kernel_rfl) (by decide) rfl (fun c a' w' h => ⟨(putS_defers _ _ _).symm.trans h.1, h.2⟩) (fun h => absurd h (by decide)) (fun u => by go_simp; rfl) ?_
      simp only [List.getElem_toArray, List.getElem_cons_zero, List.getElem_cons_succ, Act.put, List.setIfInBounds_toArray, List.set_cons_zero, List.set_cons_succ]
      refine s_end (by kernel_rfl) ?_
      have HBE := hid (lib.below_setRow HBY.out HLE.out new)
      have HZ1 : Hid (5 = Z) := hid (by
       have h5 := HT.out (by simp) (by simp)
       have := HZ.out
       rw [h5, if_pos (by decide)] at this; exact this)
      go_wp2
      go_ret
      rw [← HZ1.out]
      exact ⟨rfl, HBE.out⟩
    | false =>
     go_wp2_with fail
     refine wp_region_s (fun u => u.cell? ⟨bb, off + k * 6, none⟩ = some (.string nm)) 8 (by kernel_rfl) ?_
     show grow.wpAnyS _ _ _ _ _ _ _ _ _ w4.drew
     rw [hwd]
     refine s_calc 0 _ _ rfl (by kernel_rfl) (by kernel_rfl) (by kernel_rfl) (by kernel_rfl) (by decide) rfl (fun c a' w' h => ⟨(putS_defers _ _ _).symm.trans h.1, h.2⟩) (fun _ => hdd) (fun u => by go_simp; rfl) ?_
     simp only [List.getElem_toArray, List.getElem_cons_zero, List.getElem_cons_succ, Act.put, List.setIfInBounds_toArray, List.set_cons_zero, List.set_cons_succ]
     refine s_calc 1 _ _ rfl (by kernel_rfl) (by kernel_rfl) (by kernel_rfl) (by kernel_rfl) (by decide) rfl (fun c a' w' h => ⟨(putS_defers _ _ _).symm.trans h.1, h.2⟩) (fun _ => hdd) (fun u => by go_simp; rfl) ?_
     simp only [List.getElem_toArray, List.getElem_cons_zero, List.getElem_cons_succ, Act.put, List.setIfInBounds_toArray, List.set_cons_zero, List.set_cons_succ]
     refine s_calc 2 _ _ rfl (by kernel_rfl) (by kernel_rfl) (by kernel_rfl) (by kernel_rfl) (by decide) rfl (fun c a' w' h => ⟨(putS_defers _ _ _).symm.trans h.1, h.2⟩) (fun _ => hdd) (fun u => by go_simp; rfl) ?_
     simp only [List.getElem_toArray, List.getElem_cons_zero, List.getElem_cons_succ, Act.put, List.setIfInBounds_toArray, List.set_cons_zero, List.set_cons_succ]
     refine s_calc 3 _ _ rfl (by kernel_rfl) (by kernel_rfl) (by kernel_rfl) (by kernel_rfl) (by decide) rfl (fun c a' w' h => ⟨(putS_defers _ _ _).symm.trans h.1, h.2⟩) (fun _ => hdd) (fun u => by go_simp; rfl) ?_
     simp only [List.getElem_toArray, List.getElem_cons_zero, List.getElem_cons_succ, Act.put, List.setIfInBounds_toArray, List.set_cons_zero, List.set_cons_succ]
     refine s_calc 4 _ _ rfl (by kernel_rfl) (by kernel_rfl) (by kernel_rfl) (by kernel_rfl) (by decide) rfl (fun c a' w' h => ⟨(putS_defers _ _ _).symm.trans h.1, h.2⟩) (fun _ => hdd) (fun u => by go_simp; rfl) ?_
     simp only [List.getElem_toArray, List.getElem_cons_zero, List.getElem_cons_succ, Act.put, List.setIfInBounds_toArray, List.set_cons_zero, List.set_cons_succ]
     refine s_calc 5 _ _ rfl (by kernel_rfl) (by kernel_rfl) (by kernel_rfl) (by kernel_rfl) (by decide) rfl (fun c a' w' h => ⟨(putS_defers _ _ _).symm.trans h.1, h.2⟩) (fun _ => hdd) (fun u => by go_simp; rfl) ?_
     simp only [List.getElem_toArray, List.getElem_cons_zero, List.getElem_cons_succ, Act.put, List.setIfInBounds_toArray, List.set_cons_zero, List.set_cons_succ]
     refine s_calc 6 _ _ rfl (by kernel_rfl) (by kernel_rfl) (by kernel_rfl) (by kernel_rfl) (by decide) rfl (fun c a' w' h => ⟨(putS_defers _ _ _).symm.trans h.1, h.2⟩) (fun _ => hdd) (fun u => by go_simp; rfl) ?_
     simp only [List.getElem_toArray, List.getElem_cons_zero, List.getElem_cons_succ, Act.put, List.setIfInBounds_toArray, List.set_cons_zero, List.set_cons_succ]
     refine s_take 7 _ _ rfl (by kernel_rfl) (by kernel_rfl) (by kernel_rfl) (by kernel_rfl) (by kernel_rfl) (by decide) rfl (fun c a' w' h => ⟨(putS_defers _ _ _).symm.trans h.1, h.2⟩) (fun _ => hdd) (fun u hu => by go_simp; rfl) ?_
     simp only [List.getElem_toArray, List.getElem_cons_zero, List.getElem_cons_succ, Act.put, List.setIfInBounds_toArray, List.set_cons_zero, List.set_cons_succ]
     refine s_two 8 12 _ _ rfl rfl (by kernel_rfl) ?_ ?_
     ·go_simp
      obtain ⟨C, f1, d1, m1, f2, d2, m2, hcall⟩ := HCALL.out wd (Below.refl _ _)
      refine hcall.mono ?_
      rintro e wz ⟨rfl, hbz⟩
      have HBZ := hid (HBd.out.trans (hbz.mono HBd.out.size))
      refine ⟨fun _ => HXD.out wz hbz, ?_⟩
      try simp only [List.getElem_toArray, List.getElem_cons_zero, List.getElem_cons_succ, Act.put, List.setIfInBounds_toArray, List.set_cons_zero, List.set_cons_succ]
      clear hcall hbz
      refine s_calc 9 _ _ rfl (by kernel_rfl) (by kernel_rfl) (by kernel_rfl) (by kernel_rfl) (by decide) rfl (fun c a' w' h => ⟨(putS_defers _ _ _).symm.trans h.1, h.2⟩) (fun h => absurd h (by decide)) (fun u => by go_simp; rfl) ?_
      simp only [List.getElem_toArray, List.getElem_cons_zero, List.getElem_cons_succ, Act.put, List.setIfInBounds_toArray, List.set_cons_zero, List.set_cons_succ]
      refine s_calc 10 _ _ rfl (by kernel_rfl) (by kernel_rfl) (by kernel_rfl) (by kernel_rfl) (by decide) rfl (fun c a' w' h => ⟨(putS_defers _ _ _).symm.trans h.1, h.2⟩) (fun h => absurd h (by decide)) (fun u => by go_simp; rfl) ?_
      simp only [List.getElem_toArray, List.getElem_cons_zero, List.getElem_cons_succ, Act.put, List.setIfInBounds_toArray, List.set_cons_zero, List.set_cons_succ]
      refine s_calc 11 _ _ rfl (by kernel_rfl) (by kernel_rfl) (by kernel_rfl) (by kernel_rfl) (by decide) rfl (fun c a' w' h => ⟨(putS_defers _ _ _).symm.trans h.1, h.2⟩) (fun h => absurd h (by decide)) (fun u => by go_simp; rfl) ?_
      simp only [List.getElem_toArray, List.getElem_cons_zero, List.getElem_cons_succ, Act.put, List.setIfInBounds_toArray, List.set_cons_zero, List.set_cons_succ]
      refine s_only 12 _ rfl (by kernel_rfl) ?_
      obtain ⟨wy, hwy⟩ : ∃ wy, wz.alloc (.cells #[.string { data := #[] }, .string { data := #[] }, .slice none 0 0, .bool false, .slice none 0 0, .slice none 0 0] 74) = wy := ⟨_, rfl⟩
      obtain ⟨bz, hbz⟩ : ∃ bz, wz.heap.size = bz := ⟨_, rfl⟩
      have HRY : Hid (wy.heap[bz]? = some (.cells #[.string { data := #[] }, .string { data := #[] }, .slice none 0 0, .bool false, .slice none 0 0, .slice none 0 0] 74 (0, 0))) := hid (hwy ▸ hbz ▸ heap_alloc_new _ _)
      have HBY : Hid (Below w.heap.size w wy) := hid (hwy ▸ HBZ.out.alloc HBZ.out.size _)
      have HLE : Hid (w.heap.size ≤ bz) := hid (hbz ▸ HBZ.out.size)
      go_simp
      try rw [hwy, hbz]
      refine ⟨fun h => absurd h (by decide), ?_⟩
      try simp only [List.getElem_toArray, List.getElem_cons_zero, List.getElem_cons_succ, Act.put, List.setIfInBounds_toArray, List.set_cons_zero, List.set_cons_succ]
      refine s_only 13 _ rfl (by kernel_rfl) ?_
      refine step_store_all rfl 74 (.tmp 5) (.tmp 37) rfl bz _ rfl rfl 74 _ HRY.out (by kernel_rfl) (by simp) (by simp [Value.oneCell']) ?_
      intro new
      refine ⟨fun h => absurd h (by decide), ?_⟩
      try simp only [List.getElem_toArray, List.getElem_cons_zero, List.getElem_cons_succ, Act.put, List.setIfInBounds_toArray, List.set_cons_zero, List.set_cons_succ]
      refine s_calc 14 _ _ rfl (by kernel_rfl) (by kernel_rfl) (by kernel_rfl) (by kernel_rfl) (by decide) rfl (fun c a' w' h => ⟨(putS_defers _ _ _).symm.trans h.1, h.2⟩) (fun h => absurd h (by decide)) (fun u => by go_simp; rfl) ?_
      simp only [List.getElem_toArray, List.getElem_cons_zero, List.getElem_cons_succ, Act.put, List.setIfInBounds_toArray, List.set_cons_zero, List.set_cons_succ]
      refine s_end (by kernel_rfl) ?_
      have HBE := hid (lib.below_setRow HBY.out HLE.out new)
      have HP2 := hid (HO.out (by simp) (by simp))
      go_wp2
      go_roundw
      case rel => exact ⟨k + 1, by omega, by simp, HBE, HP2⟩
      case measure => simp [intOf]; omega
     ·obtain ⟨wy0, hwy0⟩ : ∃ wy0, wd.alloc (.cells #[.string { data := #[] }, .string { data := #[] }, .slice none 0 0, .bool false, .slice none 0 0, .slice none 0 0] 74) = wy0 := ⟨_, rfl⟩
      obtain ⟨bz, hbz⟩ : ∃ bz, wd.heap.size = bz := ⟨_, rfl⟩
      have HRY0 : Hid (wy0.heap[bz]? = some (.cells #[.string { data := #[] }, .string { data := #[] }, .slice none 0 0, .bool false, .slice none 0 0, .slice none 0 0] 74 (0, 0))) := hid (hwy0 ▸ hbz ▸ heap_alloc_new _ _)
      have HDY : Hid (Below wd.heap.size wd wy0) := hid (hwy0 ▸ ext_alloc _ _)
      have HLE : Hid (w.heap.size ≤ bz) := hid (hbz ▸ HBd.out.size)
      have HBY0 := hid (HBd.out.trans (HDY.out.mono HBd.out.size))
      go_simp
      try rw [hwy0, hbz]
      refine ⟨fun _ => HXD.out wy0 HDY.out, ?_⟩
      try simp only [List.getElem_toArray, List.getElem_cons_zero, List.getElem_cons_succ, Act.put, List.setIfInBounds_toArray, List.set_cons_zero, List.set_cons_succ]
      refine s_only 8 _ rfl (by kernel_rfl) ?_
      go_simp
      obtain ⟨C, f1, d1, m1, f2, d2, m2, hcall⟩ := HCALL.out wy0 HDY.out
      refine hcall.mono ?_
      rintro e wy ⟨rfl, hby⟩
      have HRY := hid ((hby.block bz (Array.getElem?_eq_some_iff.1 HRY0.out).1).trans HRY0.out)
      have HBY := hid (HBY0.out.trans (hby.mono HBY0.out.size))
      refine ⟨fun h => absurd h (by decide), ?_⟩
      try simp only [List.getElem_toArray, List.getElem_cons_zero, List.getElem_cons_succ, Act.put, List.setIfInBounds_toArray, List.set_cons_zero, List.set_cons_succ]
      clear hcall hby
      refine s_calc 9 _ _ rfl (by kernel_rfl) (by kernel_rfl) (by kernel_rfl) (by kernel_rfl) (by decide) rfl (fun c a' w' h => ⟨(putS_defers _ _ _).symm.trans h.1, h.2⟩) (fun h => absurd h (by decide)) (fun u => by go_simp; rfl) ?_
      simp only [List.getElem_toArray, List.getElem_cons_zero, List.getElem_cons_succ, Act.put, List.setIfInBounds_toArray, List.set_cons_zero, List.set_cons_succ]
      refine s_calc 10 _ _ rfl (by kernel_rfl) (by kernel_rfl) (by kernel_rfl) (by kernel_rfl) (by decide) rfl (fun c a' w' h => ⟨(putS_defers _ _ _).symm.trans h.1, h.2⟩) (fun h => absurd h (by decide)) (fun u => by go_simp; rfl) ?_
      simp only [List.getElem_toArray, List.getElem_cons_zero, List.getElem_cons_succ, Act.put, List.setIfInBounds_toArray, List.set_cons_zero, List.set_cons_succ]
      refine s_calc 11 _ _ rfl (by kernel_rfl) (by kernel_rfl) (by kernel_rfl) (by kernel_rfl) (by decide) rfl (fun c a' w' h => ⟨(putS_defers _ _ _).symm.trans h.1, h.2⟩) (fun h => absurd h (by decide)) (fun u => by go_simp; rfl) ?_
      simp only [List.getElem_toArray, List.getElem_cons_zero, List.getElem_cons_succ, Act.put, List.setIfInBounds_toArray, List.set_cons_zero, List.set_cons_succ]
      refine s_only 13 _ rfl (by kernel_rfl) ?_
      refine step_store_all rfl 74 (.tmp 5) (.tmp 37) rfl bz _ rfl rfl 74 _ HRY.out (by kernel_rfl) (by simp) (by simp [Value.oneCell']) ?_
      intro new
      refine ⟨fun h => absurd h (by decide), ?_⟩
      try simp only [List.getElem_toArray, List.getElem_cons_zero, List.getElem_cons_succ, Act.put, List.setIfInBounds_toArray, List.set_cons_zero, List.set_cons_succ]
      refine s_calc 14 _ _ rfl (by kernel_rfl) (by kernel_rfl) (by kernel_rfl) (by kernel_rfl) (by decide) rfl (fun c a' w' h => ⟨(putS_defers _ _ _).symm.trans h.1, h.2⟩) (fun h => absurd h (by decide)) (fun u => by go_simp; rfl) ?_
      simp only [List.getElem_toArray, List.getElem_cons_zero, List.getElem_cons_succ, Act.put, List.setIfInBounds_toArray, List.set_cons_zero, List.set_cons_succ]
      refine s_end (by kernel_rfl) ?_
      have HBE := hid (lib.below_setRow HBY.out HLE.out new)
      have HP2 := hid (HO.out (by simp) (by simp))
      go_wp2
      go_roundw
      case rel => exact ⟨k + 1, by omega, by simp, HBE, HP2⟩
      case measure => simp [intOf]; omega
   ·have HZ1 : Hid (z = Z) := hid (by
     have h5 := HBD.out h0
     have := HZ.out
     rw [h5, if_pos h0] at this; exact this)
    go_wp2
    go_ret
    rw [← HZ1.out]
    exact ⟨rfl, HB4.out⟩
  ·have hge : ¬ (k : Int) < (l.length : Int) := by omega
   have HZ2 : Hid ((if firstF (joinL l) l ≠ 0 then firstF (joinL l) l else firstF (roundL l) l) = Z) := hid (by
    have := HZ.out
    rw [if_neg (by rw [HP.out, loadR_end hlt]; decide)] at this; exact this)
   clear HP hlt hk hk0
   go_wp2_with fail
   go_loopw [7] (fun v wq => ∃ k : Nat, k ≤ l.length ∧ v = .int .i64 (k : Int) ∧ Hid (Below w.heap.size w wq) ∧ Hid (firstF (joinL l) l = firstF (joinL l) (l.drop k))) (fun v _ => l.length - (intOf v).toNat)
   case atStart => exact ⟨0, Nat.zero_le _, rfl, HR, hid rfl⟩
   case round =>
    obtain ⟨k, hk, rfl, HR, HP⟩ := hrel
    obtain ⟨wa, hwa⟩ : ∃ wa, wa = wr := ⟨_, rfl⟩
    subst hwa
    have hk0 : (0 : Int) ≤ (k : Int) := by omega
    by_cases hlt : k < l.length
    ·have hk1 : (k : Int) < (l.length : Int) := by omega
     obtain ⟨bb, off, hab, hd0, hd1, hd2, hd3, hd4, hd5⟩ := cls_at (HL.out.below HR.out) hlt
     subst hab
     have hcat : l[k].At w := HL.out.at_ _ (List.getElem_mem hlt)
     have hcs : SmallC l[k] := HSM.out _ (List.getElem_mem hlt)
     have HBD := hid (fun h => HP.out.trans (ff_no (f := joinL l) hlt h))
     have HO := hid (fun h => HP.out.trans (ff_ok (f := joinL l) hlt h))
     generalize l[k] = c at hd0 hd1 hd2 hd3 hd4 hd5 hcat hcs HBD HO
     have HC := hid hcat; have HCS := hid hcs
     obtain ⟨nm, sup, vf, face, vd, vm, faces, fields, mets⟩ := c
     obtain ⟨a1, c1, a2, c2, a3, c3, e1, e2, e3⟩ := cls_vals hcat
     simp only at e1 e2 e3 hd0 hd1 hd2 hd3 hd4 hd5
     subst e1 e2 e3
     clear hcat hcs
     have HCHK := hid (rjoin_any _ l ⟨nm, sup, .slice a1 faces.length c1, face, .slice a2 fields.length c2, .slice a3 mets.length c3, faces, fields, mets⟩ wa (HL.out.below HR.out) hn (HC.out.below HR.out) HCS.out.flen)
     obtain ⟨z, hz⟩ : ∃ z, joinL l ⟨nm, sup, .slice a1 faces.length c1, face, .slice a2 fields.length c2, .slice a3 mets.length c3, faces, fields, mets⟩ = z := ⟨_, rfl⟩
     rw [hz] at HCHK HBD HO
     clear hz
     go_wp2_with fail
     refine HCHK.out.mono ?_
     rintro e w4 ⟨rfl, hb4⟩
     have HB4 := hid (HR.out.trans (hb4.mono HR.out.size))
     clear hb4
     by_cases h0 : z = 0
     ·subst h0
      have HP2 := hid (HO.out (by simp))
      go_wp2
      go_roundw
      case rel => exact ⟨k + 1, by omega, by simp, HB4, HP2⟩
      case measure => simp [intOf]; omega
     ·have HZ1 : Hid (z = Z) := hid (by
       have h5 := HBD.out h0
       have := HZ2.out
       rw [h5, if_pos h0] at this; exact this)
      go_wp2
      go_ret
      rw [← HZ1.out]
      exact ⟨rfl, HB4.out⟩
    ·have hge : ¬ (k : Int) < (l.length : Int) := by omega
     have HZ3 : Hid (firstF (roundL l) l = Z) := hid (by
      have := HZ2.out
      rw [if_neg (by rw [HP.out, ff_end hlt]; decide)] at this; exact this)
     clear HP hlt hk hk0
     go_wp2_with fail
     go_loopw [9] (fun v wq => ∃ k : Nat, k ≤ l.length ∧ v = .int .i64 (k : Int) ∧ Hid (Below w.heap.size w wq) ∧ Hid (firstF (roundL l) l = firstF (roundL l) (l.drop k))) (fun v _ => l.length - (intOf v).toNat)
     case atStart => exact ⟨0, Nat.zero_le _, rfl, HR, hid rfl⟩
     case round =>
      obtain ⟨k, hk, rfl, HR, HP⟩ := hrel
      obtain ⟨wa, hwa⟩ : ∃ wa, wa = wr := ⟨_, rfl⟩
      subst hwa
      have hk0 : (0 : Int) ≤ (k : Int) := by omega
      by_cases hlt : k < l.length
      ·have hk1 : (k : Int) < (l.length : Int) := by omega
       obtain ⟨wd, hwd⟩ : ∃ wd, wa.drew = wd := ⟨_, rfl⟩
       have HBd : Hid (Below w.heap.size w wd) := hid (hwd ▸ HR.out.drew)
       obtain ⟨bb, off, hab, hd0, _⟩ := cls_at (HL.out.below HBd.out) hlt
       subst hab
       have HBD := hid (fun h => HP.out.trans (ff_no (f := roundL l) hlt h))
       have HO := hid (fun h => HP.out.trans (ff_ok (f := roundL l) hlt h))
       have hrd : roundL l l[k] = if inTexts l[k].nm (upAll l l[k].nm) = true then 6 else 0 := rfl
       rw [hrd] at HBD HO
       clear hrd
       generalize l[k] = c at hd0 HBD HO
       obtain ⟨nm, hnm⟩ : ∃ nm, c.nm = nm := ⟨_, rfl⟩
       rw [hnm] at hd0 HBD HO
       clear hnm
       have HUP := hid (rup_any _ l nm wd (HL.out.below HBd.out) HS.out)
       have hul : (upAll l nm).length ≤ 13000001 := Nat.le_trans (upR_most l nm _) (HS.out.most nm)
       generalize upAll l nm = U at HUP HBD HO hul
       obtain ⟨is, his⟩ : ∃ is, inTexts nm U = is := ⟨_, rfl⟩
       rw [his] at HBD HO
       have HIN : Hid (∀ (av : Option Addr) (n c : Nat) (u : World), Sl u (.slice av n c) n 1 (U.map .string) → n ≤ 1000000000000 → Calls Tryz.prog 35 #[.slice av n c, .string nm] u fun e w' => e = .returned (.bool is) ∧ u = w') := hid (fun av n c u h h2 => by
        rw [← his]; exact rin_any av n c U nm u h h2)
       clear his
       have hdd := hd0
       have HXD : Hid (∀ u, Below wd.heap.size wd u → u.cell? ⟨bb, off + k * 6, none⟩ = some (.string nm)) := hid (fun u hu => by
        rw [hu.cell (p := ⟨bb, off + k * 6, none⟩) (World.block_lt_of_cell? wd _ hdd)]; exact hdd)
       clear hd0
       cases is with
       | true =>
        go_wp2_with fail
        refine wp_region_s (fun u => u.cell? ⟨bb, off + k * 6, none⟩ = some (.string nm)) 12 (by kernel_rfl) ?_
        show grow.wpAnyS _ _ _ _ _ _ _ _ _ wa.drew
        rw [hwd]
        refine s_calc 0 _ _ rfl (by kernel_rfl) (by kernel_rfl) (by kernel_rfl) (by kernel_rfl) (by decide) rfl (fun c a' w' h => ⟨(putS_defers _ _ _).symm.trans h.1, h.2⟩) (fun _ => hdd) (fun u => by go_simp; rfl) ?_
        simp only [List.getElem_toArray, List.getElem_cons_zero, List.getElem_cons_succ, Act.put, List.setIfInBounds_toArray, List.set_cons_zero, List.set_cons_succ]
        refine s_calc 1 _ _ rfl (by kernel_rfl) (by kernel_rfl) (by kernel_rfl) (by kernel_rfl) (by decide) rfl (fun c a' w' h => ⟨(putS_defers _ _ _).symm.trans h.1, h.2⟩) (fun _ => hdd) (fun u => by go_simp; rfl) ?_
        simp only [List.getElem_toArray, List.getElem_cons_zero, List.getElem_cons_succ, Act.put, List.setIfInBounds_toArray, List.set_cons_zero, List.set_cons_succ]
        refine s_calc 2 _ _ rfl (by kernel_rfl) (by kernel_rfl) (by kernel_rfl) (by kernel_rfl) (by decide) rfl (fun c a' w' h => ⟨(putS_defers _ _ _).symm.trans h.1, h.2⟩) (fun _ => hdd) (fun u => by go_simp; rfl) ?_
        simp only [List.getElem_toArray, List.getElem_cons_zero, List.getElem_cons_succ, Act.put, List.setIfInBounds_toArray, List.set_cons_zero, List.set_cons_succ]
        refine s_calc 3 _ _ rfl (by kernel_rfl) (by kernel_rfl) (by kernel_rfl) (by kernel_rfl) (by decide) rfl (fun c a' w' h => ⟨(putS_defers _ _ _).symm.trans h.1, h.2⟩) (fun _ => hdd) (fun u => by go_simp; rfl) ?_
        simp only [List.getElem_toArray, List.getElem_cons_zero, List.getElem_cons_succ, Act.put, List.setIfInBounds_toArray, List.set_cons_zero, List.set_cons_succ]
        refine s_calc 4 _ _ rfl (by kernel_rfl) (by kernel_rfl) (by kernel_rfl) (by kernel_rfl) (by decide) rfl (fun c a' w' h => ⟨(putS_defers _ _ _).symm.trans h.1, h.2⟩) (fun _ => hdd) (fun u => by go_simp; rfl) ?_
        simp only [List.getElem_toArray, List.getElem_cons_zero, List.getElem_cons_succ, Act.put, List.setIfInBounds_toArray, List.set_cons_zero, List.set_cons_succ]
        refine s_take 5 _ _ rfl (by kernel_rfl) (by kernel_rfl) (by kernel_rfl) (by kernel_rfl) (by kernel_rfl) (by decide) rfl (fun c a' w' h => ⟨(putS_defers _ _ _).symm.trans h.1, h.2⟩) (fun _ => hdd) (fun u hu => by go_simp; rfl) ?_
        simp only [List.getElem_toArray, List.getElem_cons_zero, List.getElem_cons_succ, Act.put, List.setIfInBounds_toArray, List.set_cons_zero, List.set_cons_succ]
        refine s_calc 7 _ _ rfl (by kernel_rfl) (by kernel_rfl) (by kernel_rfl) (by kernel_rfl) (by decide) rfl (fun c a' w' h => ⟨(putS_defers _ _ _).symm.trans h.1, h.2⟩) (fun _ => hdd) (fun u => by go_simp; rfl) ?_
        simp only [List.getElem_toArray, List.getElem_cons_zero, List.getElem_cons_succ, Act.put, List.setIfInBounds_toArray, List.set_cons_zero, List.set_cons_succ]
        refine s_calc 8 _ _ rfl (by kernel_rfl) (by kernel_rfl) (by kernel_rfl) (by kernel_rfl) (by decide) rfl (fun c a' w' h => ⟨(putS_defers _ _ _).symm.trans h.1, h.2⟩) (fun _ => hdd) (fun u => by go_simp; rfl) ?_
        simp only [List.getElem_toArray, List.getElem_cons_zero, List.getElem_cons_succ, Act.put, List.setIfInBounds_toArray, List.set_cons_zero, List.set_cons_succ]
        refine s_calc 9 _ _ rfl (by kernel_rfl) (by kernel_rfl) (by kernel_rfl) (by kernel_rfl) (by decide) rfl (fun c a' w' h => ⟨(putS_defers _ _ _).symm.trans h.1, h.2⟩) (fun _ => hdd) (fun u => by go_simp; rfl) ?_
        simp only [List.getElem_toArray, List.getElem_cons_zero, List.getElem_cons_succ, Act.put, List.setIfInBounds_toArray, List.set_cons_zero, List.set_cons_succ]
        refine s_calc 10 _ _ rfl (by kernel_rfl) (by kernel_rfl) (by kernel_rfl) (by kernel_rfl) (by decide) rfl (fun c a' w' h => ⟨(putS_defers _ _ _).symm.trans h.1, h.2⟩) (fun _ => hdd) (fun u => by go_simp; rfl) ?_
        simp only [List.getElem_toArray, List.getElem_cons_zero, List.getElem_cons_succ, Act.put, List.setIfInBounds_toArray, List.set_cons_zero, List.set_cons_succ]
        refine s_take 11 _ _ rfl (by kernel_rfl) (by kernel_rfl) (by kernel_rfl) (by kernel_rfl) (by kernel_rfl) (by decide) rfl (fun c a' w' h => ⟨(putS_defers _ _ _).symm.trans h.1, h.2⟩) (fun _ => hdd) (fun u hu => by go_simp; rfl) ?_
        simp only [List.getElem_toArray, List.getElem_cons_zero, List.getElem_cons_succ, Act.put, List.setIfInBounds_toArray, List.set_cons_zero, List.set_cons_succ]
        refine s_only 6 _ rfl (by kernel_rfl) ?_
        go_simp
        refine HUP.out.mono ?_
        rintro e w5 ⟨v5, rfl, ho5⟩
        obtain ⟨a5, c5, hv5⟩ := ho5.sl.val
        subst hv5
        have HS5 := hid ho5.sl
        have hd5 := HXD.out _ ho5.below
        have HBE := hid (HBd.out.trans (ho5.below.mono HBd.out.size))
        clear ho5
        refine ⟨fun _ => hd5, ?_⟩
        try simp only [List.getElem_toArray, List.getElem_cons_zero, List.getElem_cons_succ, Act.put, List.setIfInBounds_toArray, List.set_cons_zero, List.set_cons_succ]
        refine s_only 12 _ rfl (by kernel_rfl) ?_
        go_simp
        refine (HIN.out _ _ _ _ HS5.out (by omega)).mono ?_
        rintro e w6 ⟨rfl, rfl⟩
        refine ⟨fun h => absurd h (by decide), ?_⟩
        try simp only [List.getElem_toArray, List.getElem_cons_zero, List.getElem_cons_succ, Act.put, List.setIfInBounds_toArray, List.set_cons_zero, List.set_cons_succ]
        refine s_end (by kernel_rfl) ?_
        have HZ1 : Hid (6 = Z) := hid (by
         have h5 := HBD.out (by simp)
         have := HZ3.out
         rw [h5] at this; simpa using this)
        go_wp2
        go_ret
        rw [← HZ1.out]
        exact ⟨rfl, HBE.out⟩
       | false =>
        go_wp2_with fail
        refine wp_region_s (fun u => u.cell? ⟨bb, off + k * 6, none⟩ = some (.string nm)) 12 (by kernel_rfl) ?_
        show grow.wpAnyS _ _ _ _ _ _ _ _ _ wa.drew
        rw [hwd]
        refine s_calc 0 _ _ rfl (by kernel_rfl) (by kernel_rfl) (by kernel_rfl) (by kernel_rfl) (by decide) rfl (fun c a' w' h => ⟨(putS_defers _ _ _).symm.trans h.1, h.2⟩) (fun _ => hdd) (fun u => by go_simp; rfl) ?_
        simp only [List.getElem_toArray, List.getElem_cons_zero, List.getElem_cons_succ, Act.put, List.setIfInBounds_toArray, List.set_cons_zero, List.set_cons_succ]
        refine s_calc 1 _ _ rfl (by kernel_rfl) (by kernel_rfl) (by kernel_rfl) (by kernel_rfl) (by decide) rfl (fun c a' w' h => ⟨(putS_defers _ _ _).symm.trans h.1, h.2⟩) (fun _ => hdd) (fun u => by go_simp; rfl) ?_
        simp only [List.getElem_toArray, List.getElem_cons_zero, List.getElem_cons_succ, Act.put, List.setIfInBounds_toArray, List.set_cons_zero, List.set_cons_succ]
        refine s_calc 2 _ _ rfl (by kernel_rfl) (by kernel_rfl) (by kernel_rfl) (by kernel_rfl) (by decide) rfl (fun c a' w' h => ⟨(putS_defers _ _ _).symm.trans h.1, h.2⟩) (fun _ => hdd) (fun u => by go_simp; rfl) ?_
        simp only [List.getElem_toArray, List.getElem_cons_zero, List.getElem_cons_succ, Act.put, List.setIfInBounds_toArray, List.set_cons_zero, List.set_cons_succ]
        refine s_calc 3 _ _ rfl (by kernel_rfl) (by kernel_rfl) (by kernel_rfl) (by kernel_rfl) (by decide) rfl (fun c a' w' h => ⟨(putS_defers _ _ _).symm.trans h.1, h.2⟩) (fun _ => hdd) (fun u => by go_simp; rfl) ?_
        simp only [List.getElem_toArray, List.getElem_cons_zero, List.getElem_cons_succ, Act.put, List.setIfInBounds_toArray, List.set_cons_zero, List.set_cons_succ]
        refine s_calc 4 _ _ rfl (by kernel_rfl) (by kernel_rfl) (by kernel_rfl) (by kernel_rfl) (by decide) rfl (fun c a' w' h => ⟨(putS_defers _ _ _).symm.trans h.1, h.2⟩) (fun _ => hdd) (fun u => by go_simp; rfl) ?_
        simp only [List.getElem_toArray, List.getElem_cons_zero, List.getElem_cons_succ, Act.put, List.setIfInBounds_toArray, List.set_cons_zero, List.set_cons_succ]
        refine s_take 5 _ _ rfl (by kernel_rfl) (by kernel_rfl) (by kernel_rfl) (by kernel_rfl) (by kernel_rfl) (by decide) rfl (fun c a' w' h => ⟨(putS_defers _ _ _).symm.trans h.1, h.2⟩) (fun _ => hdd) (fun u hu => by go_simp; rfl) ?_
        simp only [List.getElem_toArray, List.getElem_cons_zero, List.getElem_cons_succ, Act.put, List.setIfInBounds_toArray, List.set_cons_zero, List.set_cons_succ]
        refine s_calc 7 _ _ rfl (by kernel_rfl) (by kernel_rfl) (by kernel_rfl) (by kernel_rfl) (by decide) rfl (fun c a' w' h => ⟨(putS_defers _ _ _).symm.trans h.1, h.2⟩) (fun _ => hdd) (fun u => by go_simp; rfl) ?_
        simp only [List.getElem_toArray, List.getElem_cons_zero, List.getElem_cons_succ, Act.put, List.setIfInBounds_toArray, List.set_cons_zero, List.set_cons_succ]
        refine s_calc 8 _ _ rfl (by kernel_rfl) (by kernel_rfl) (by kernel_rfl) (by kernel_rfl) (by decide) rfl (fun c a' w' h => ⟨(putS_defers _ _ _).symm.trans h.1, h.2⟩) (fun _ => hdd) (fun u => by go_simp; rfl) ?_
        simp only [List.getElem_toArray, List.getElem_cons_zero, List.getElem_cons_succ, Act.put, List.setIfInBounds_toArray, List.set_cons_zero, List.set_cons_succ]
        refine s_calc 9 _ _ rfl (by kernel_rfl) (by kernel_rfl) (by kernel_rfl) (by kernel_rfl) (by decide) rfl (fun c a' w' h => ⟨(putS_defers _ _ _).symm.trans h.1, h.2⟩) (fun _ => hdd) (fun u => by go_simp; rfl) ?_
        simp only [List.getElem_toArray, List.getElem_cons_zero, List.getElem_cons_succ, Act.put, List.setIfInBounds_toArray, List.set_cons_zero, List.set_cons_succ]
        refine s_calc 10 _ _ rfl (by kernel_rfl) (by kernel_rfl) (by kernel_rfl) (by kernel_rfl) (by decide) rfl (fun c a' w' h => ⟨(putS_defers _ _ _).symm.trans h.1, h.2⟩) (fun _ => hdd) (fun u => by go_simp; rfl) ?_
        simp only [List.getElem_toArray, List.getElem_cons_zero, List.getElem_cons_succ, Act.put, List.setIfInBounds_toArray, List.set_cons_zero, List.set_cons_succ]
        refine s_take 11 _ _ rfl (by kernel_rfl) (by kernel_rfl) (by kernel_rfl) (by kernel_rfl) (by kernel_rfl) (by decide) rfl (fun c a' w' h => ⟨(putS_defers _ _ _).symm.trans h.1, h.2⟩) (fun _ => hdd) (fun u hu => by go_simp; rfl) ?_
        simp only [List.getElem_toArray, List.getElem_cons_zero, List.getElem_cons_succ, Act.put, List.setIfInBounds_toArray, List.set_cons_zero, List.set_cons_succ]
        refine s_only 6 _ rfl (by kernel_rfl) ?_
        go_simp
        refine HUP.out.mono ?_
        rintro e w5 ⟨v5, rfl, ho5⟩
        obtain ⟨a5, c5, hv5⟩ := ho5.sl.val
        subst hv5
        have HS5 := hid ho5.sl
        have hd5 := HXD.out _ ho5.below
        have HBE := hid (HBd.out.trans (ho5.below.mono HBd.out.size))
        clear ho5
        refine ⟨fun _ => hd5, ?_⟩
        try simp only [List.getElem_toArray, List.getElem_cons_zero, List.getElem_cons_succ, Act.put, List.setIfInBounds_toArray, List.set_cons_zero, List.set_cons_succ]
        refine s_only 12 _ rfl (by kernel_rfl) ?_
        go_simp
        refine (HIN.out _ _ _ _ HS5.out (by omega)).mono ?_
        rintro e w6 ⟨rfl, rfl⟩
        refine ⟨fun h => absurd h (by decide), ?_⟩
        try simp only [List.getElem_toArray, List.getElem_cons_zero, List.getElem_cons_succ, Act.put, List.setIfInBounds_toArray, List.set_cons_zero, List.set_cons_succ]
        refine s_end (by kernel_rfl) ?_
        have HP2 := hid (HO.out (by simp))
        go_wp2
        go_roundw
        case rel => exact ⟨k + 1, by omega, by simp, HBE, HP2⟩
        case measure => simp [intOf]; omega
      ·have hge : ¬ (k : Int) < (l.length : Int) := by omega
       have HZ1 : Hid (0 = Z) := hid (by rw [← HZ3.out, HP.out, ff_end hlt])
       clear HP hlt
       go_wp2_with fail
       go_ret
       rw [← HZ1.out]
       exact ⟨rfl, HR.out⟩
end Go.Proofs.YtlhobhnbgdicjaaGreatDoor.worlds
namespace Go.Proofs.YtlhobhnbgdicjaaGreatDoor.worlds
open Go.RowKit lib maps classes errs descs names grow ins
set_option maxHeartbeats 2000000 in
theorem classIn_any (s : ByteArray) (w : World) (hs : isTy s.data.toList = true) : Calls Tryz.prog 38 #[.string s] w fun e w' => e = .returned (.string (classN s.data.toList)) ∧ w = w' := by
 have hl := size_len s
 have h25 := isTy_size hs
 have HTY := hid hs
 clear hs
 go_enter Tryz.func38, Tryz.ntmps38
 go_wp2_with fail
 go_loop [3] (fun i => ∃ k : Nat, k ≤ s.size ∧ i = .int .i64 k ∧ Hid (Behind s.data.toList 0 k)) (fun i => s.size - (intOf i).toNat)
 case atStart => exact ⟨0, Nat.zero_le _, rfl, hid rfl⟩
 case round =>
  obtain ⟨k, hk, rfl, HP⟩ := hrel
  by_cases hlt : k < s.size
  ·have hkl : (k : Int) < (s.size : Int) := by omega
   have hi : (0 : Int) ≤ (k : Int) := by omega
   by_cases hc : s[k] = 91
   ·have HP2 := hid (behind_step HP.out hlt hc)
    go_wp2
    go_round
    case rel => exact ⟨k + 1, by omega, by go_num, HP2⟩
    case measure => simp [intOf]; omega
   ·have hcore := behind_end HP.out hlt hc
    rw [List.drop_zero] at hcore
    have hcore : coreB s.data.toList = s[k] :: s.data.toList.drop (k + 1) := hcore
    obtain ⟨p, t, hpt, hp, h3, ht, hct⟩ := right_parts HTY.out
    rw [hct] at hcore
    have u91 : ¬ (s[k].toNat : Int) = 91 := fun h => hc (UInt8.toNat_inj.1 (by simpa using (by omega : s[k].toNat = 91)))
    rcases ht with ht | ht | ⟨nm, ht, hnm⟩
    ·have hck : s[k] = 73 := by rw [ht] at hcore; exact (List.cons.inj hcore).1.symm
     have HN : Hid (classN s.data.toList = ⟨#[]⟩) := hid (by unfold classN classB; rw [hct, ht, if_pos (by decide)]; rfl)
     clear hcore hpt ht hct hc
     go_wp2
     go_ret
     rw [HN.out]
     exact ⟨rfl, rfl⟩
    ·have hck : s[k] = 74 := by rw [ht] at hcore; exact (List.cons.inj hcore).1.symm
     have HN : Hid (classN s.data.toList = ⟨#[]⟩) := hid (by unfold classN classB; rw [hct, ht, if_pos (by decide)]; rfl)
     clear hcore hpt ht hct hc
     go_wp2
     go_ret
     rw [HN.out]
     exact ⟨rfl, rfl⟩
    ·have hck : s[k] = 76 := by rw [ht] at hcore; exact (List.cons.inj hcore).1.symm
     have hdr : s.data.toList.drop (k + 1) = nm ++ [59] := by rw [ht] at hcore; exact (List.cons.inj hcore).2.symm
     have hlen : s.size = k + 1 + nm.length + 1 := by
      have := congrArg List.length hdr
      rw [List.length_drop, List.length_append, hl] at this
      simp only [List.length_cons, List.length_nil] at this
      omega
     have HN : Hid (classN s.data.toList = s.extract (k + 1) (k + 1 + nm.length)) := hid (by
      have h76 : isWd (76 :: (nm ++ [59])) = false := by
       unfold isWd
       rw [decide_eq_false_iff_not]
       rintro (h | h) <;> simp at h
      have e1 : classB s.data.toList = nm := by
       unfold classB; rw [hct, ht, if_neg (by rw [h76]; decide)]; simp
      have this : (s.extract (k + 1) (k + 1 + nm.length)).data.toList = nm := by
       rw [ByteArray.data_extract, Array.toList_extract, List.extract_eq_take_drop, hdr]
       have : k + 1 + nm.length - (k + 1) = nm.length := by omega
       rw [this]; simp
      unfold classN
      rw [e1]
      cases hx : s.extract (k + 1) (k + 1 + nm.length) with
      | mk d =>
       rw [hx] at this
       unfold bs
       congr 1
       rw [← this])
     have g1 : ((k : Int) + 1).toNat = k + 1 := by omega
     have g2 : ((s.size : Int) - 1).toNat = k + 1 + nm.length := by omega
     have g3 : (0 : Int) ≤ (s.size : Int) - 1 := by omega
     have g4 : (k : Int) + 1 ≤ (s.size : Int) - 1 := by omega
     clear hcore hpt ht hct hc hdr
     go_wp2
     go_ret
     exact ⟨by rw [HN.out]; first | rfl | (simp [g1, g2]; done), rfl⟩
  ·exfalso
   have h1 := behind_out HP.out (by omega)
   rw [List.drop_zero] at h1
   obtain ⟨p, t, hpt, hp, h3, ht, hct⟩ := right_parts HTY.out
   have h1 : coreB s.data.toList = [] := h1
   rw [hct] at h1
   rcases ht with ht | ht | ⟨nm, ht, hnm⟩ <;> (rw [ht] at h1; cases h1)
def kindL (l : List CV) (k : List UInt8) : Int :=
 if k = [78] ∨ k = [84] then 0 else if isTy k = false then 1 else if classB k ≠ [] ∧ getL l (classN k) = none then 3 else 0
theorem kind_eq {l : List CV} {W : WL} (h : ∀ n, getK W n = getL l n) (k : List UInt8) : kindL l k = kindF W k := by
 unfold kindL kindF; rw [h]
set_option maxRecDepth 100000 in
set_option maxHeartbeats 4000000 in
theorem rkind_any (va : Value) (l : List CV) (k : ByteArray) (w : World) (hl : Clss w va l) (hm : l.length ≤ 1048576) (hk : k.size ≤ 9223372036854775807) :
  Calls Tryz.prog 37 #[va, .string k] w fun e w' => e = .returned (.int .i64 (kindL l k.data.toList)) ∧ Below w.heap.size w w' := by
 obtain ⟨al, cl, rfl⟩ := hl.val
 have HL := hid hl
 clear hl
 by_cases h1 : k.data.toList = [78]
 ·have g1 : k.toList = [78] := str_list.2 h1
  have HZ : Hid (kindL l k.data.toList = 0) := hid (if_pos (.inl h1))
  clear h1
  go_enter Tryz.func37, Tryz.ntmps37
  go_wp2
  go_ret
  exact ⟨by rw [HZ.out]; rfl, Below.refl _ _⟩
 by_cases h2 : k.data.toList = [84]
 ·have g1 : k.toList = [84] := str_list.2 h2
  have HZ : Hid (kindL l k.data.toList = 0) := hid (if_pos (.inr h2))
  clear h1 h2
  go_enter Tryz.func37, Tryz.ntmps37
  go_wp2
  go_ret
  exact ⟨by rw [HZ.out]; rfl, Below.refl _ _⟩
 have g1 : ¬ k.toList = [78] := fun h => h1 (str_list.1 h)
 have g2 : ¬ k.toList = [84] := fun h => h2 (str_list.1 h)
 have g3 : (k.toList == [78]) = false := beq_eq_false_iff_ne.2 g1
 have g4 : (k.toList == [84]) = false := beq_eq_false_iff_ne.2 g2
 have HZ : Hid (kindL l k.data.toList = if isTy k.data.toList = false then 1 else if classB k.data.toList ≠ [] ∧ getL l (classN k.data.toList) = none then 3 else 0) := hid (if_neg (fun h => h.elim h1 h2))
 clear h1 h2
 have HT := hid (isType_any k w hk)
 cases h3 : isTy k.data.toList with
 | false =>
  have HZ2 : Hid (kindL l k.data.toList = 1) := hid (by rw [HZ.out, if_pos h3])
  rw [h3] at HT
  clear h3
  go_enter Tryz.func37, Tryz.ntmps37
  go_wp2_with fail
  refine HT.out.mono ?_
  rintro e w1 ⟨rfl, rfl⟩
  go_wp2
  go_ret
  exact ⟨by rw [HZ2.out]; rfl, Below.refl _ _⟩
 | true =>
  have HZ2 : Hid (kindL l k.data.toList = if classB k.data.toList ≠ [] ∧ getL l (classN k.data.toList) = none then 3 else 0) := hid (by rw [HZ.out, if_neg (by rw [h3]; decide)])
  have HCI := hid (classIn_any k w h3)
  have HNB : Hid (classN k.data.toList = noB ↔ classB k.data.toList = []) := hid (clsN_no _)
  rw [h3] at HT
  generalize classB k.data.toList = cb at HZ2 HNB
  generalize classN k.data.toList = cn at HZ2 HCI HNB
  obtain ⟨C, f1, d1, m1, f2, d2, m2, _, _, _, _, hcall⟩ := clsOf_parts _ l cn w HL.out hm
  have HCALL := hid hcall
  clear hcall h3
  have HIS : Hid (getL l cn = none ↔ (getL l cn).isSome = false) := hid (by cases getL l cn <;> simp)
  generalize getL l cn = gl at HZ2 HCALL HIS
  generalize gl.isSome = is at HCALL HIS
  by_cases h4 : cn = noB
  ·have HZ3 : Hid (kindL l k.data.toList = 0) := hid (by rw [HZ2.out, if_neg (fun h => h.1 (HNB.out.1 h4))])
   have g5 : cn.toList = [] := (noB_iff cn).1 h4
   have g6 : (cn.toList == []) = true := by rw [g5]; rfl
   clear h4
   go_enter Tryz.func37, Tryz.ntmps37
   go_wp2_with fail
   refine HT.out.mono ?_
   rintro e w1 ⟨rfl, rfl⟩
   go_wp2_with fail
   refine HCI.out.mono ?_
   rintro e w1 ⟨rfl, rfl⟩
   go_wp2_with fail
   refine HCALL.out.mono ?_
   rintro e w1 ⟨rfl, hb1⟩
   have HB1 := hid hb1
   clear hb1
   go_wp2
   go_ret
   exact ⟨by rw [HZ3.out]; rfl, HB1.out.alloc HB1.out.size _⟩
  ·have g5 : ¬ cn.toList = [] := fun h => h4 ((noB_iff cn).2 h)
   have g6 : (cn.toList == []) = false := beq_eq_false_iff_ne.2 g5
   have HNC := hid (fun h => h4 (HNB.out.2 h))
   clear h4
   cases is with
   | false =>
    have HZ3 : Hid (kindL l k.data.toList = 3) := hid (by rw [HZ2.out, if_pos ⟨HNC.out, HIS.out.2 rfl⟩])
    go_enter Tryz.func37, Tryz.ntmps37
    go_wp2_with fail
    refine HT.out.mono ?_
    rintro e w1 ⟨rfl, rfl⟩
    go_wp2_with fail
    refine HCI.out.mono ?_
    rintro e w1 ⟨rfl, rfl⟩
    go_wp2_with fail
    refine HCALL.out.mono ?_
    rintro e w1 ⟨rfl, hb1⟩
    have HB1 := hid hb1
    clear hb1
    go_wp2
    go_ret
    exact ⟨by rw [HZ3.out]; rfl, HB1.out.alloc HB1.out.size _⟩
   | true =>
    have HZ3 : Hid (kindL l k.data.toList = 0) := hid (by rw [HZ2.out, if_neg (fun h => absurd (HIS.out.1 h.2) (by decide))])
    go_enter Tryz.func37, Tryz.ntmps37
    go_wp2_with fail
    refine HT.out.mono ?_
    rintro e w1 ⟨rfl, rfl⟩
    go_wp2_with fail
    refine HCI.out.mono ?_
    rintro e w1 ⟨rfl, rfl⟩
    go_wp2_with fail
    refine HCALL.out.mono ?_
    rintro e w1 ⟨rfl, hb1⟩
    have HB1 := hid hb1
    clear hb1
    go_wp2
    go_ret
    exact ⟨by rw [HZ3.out]; rfl, HB1.out.alloc HB1.out.size _⟩
def layT (W : WL) (ln : List ByteArray) : List ByteArray := (ln.reverse.flatMap fun c => (cAt W c).fields).map Fd.ty
theorem lay_stop (W : WL) (n : ByteArray) : layT W [n] = (cAt W n).fields.map Fd.ty := by simp [layT]
theorem lay_up (W : WL) (n : ByteArray) (ln : List ByteArray) : layT W (n :: ln) = layT W ln ++ (cAt W n).fields.map Fd.ty := by simp [layT]
theorem lay_len {W : WL} (h : ∀ n, (cAt W n).fields.length ≤ 8) : ∀ ln, (layT W ln).length ≤ ln.length * 8
 | [] => by simp [layT]
 | n :: ln => by
  have h1 := lay_len h ln
  have h2 := h n
  rw [lay_up, List.length_append, List.length_map, List.length_cons, Nat.succ_mul]
  omega
set_option maxRecDepth 100000 in
set_option maxHeartbeats 8000000 in
theorem rfields_any {l : List CV} {W : WL} (HW : ∀ n, getK W n = getL l n) (hfd : ∀ n, (cAt W n).fields.length ≤ 8) (hm : l.length ≤ 1048576) : ∀ {n : ByteArray} {ln : List ByteArray}, Line W n ln → ln.length ≤ 13000002 → ∀ (va : Value) (w : World), Clss w va l →
  Calls Tryz.prog 39 #[va, .string n] w fun e w' => ∃ v, e = .returned v ∧ Out w w' 9 1 v (layT W ln).length ((layT W ln).map .string) := by
 intro n ln hln
 have key : ∀ (n : ByteArray) (P : List ByteArray), P.length ≤ 104000016 → ∀ (va : Value) (w : World), Clss w va l →
   ((cAt W n).sup = noB → P = []) → ((cAt W n).sup ≠ noB → ∀ u, Clss u va l → Calls Tryz.prog 39 #[va, .string (cAt W n).sup] u fun e w' => ∃ v, e = .returned v ∧ Out u w' 9 1 v P.length (P.map .string)) →
   Calls Tryz.prog 39 #[va, .string n] w fun e w' => ∃ v, e = .returned v ∧ Out w w' 9 1 v (P ++ (cAt W n).fields.map Fd.ty).length ((P ++ (cAt W n).fields.map Fd.ty).map .string) := by
  intro n P hP va w hl hstop hup
  obtain ⟨al, cl, rfl⟩ := hl.val
  have HL := hid hl
  obtain ⟨C, f1, d1, m1, f2, d2, m2, hC, hat, _, hvd, hcall⟩ := clsOf_parts _ l n w hl hm
  have e : cAt W n = C := by unfold cAt; rw [HW]; exact hC
  have hfn := hfd n
  rw [e] at hstop hup hfn ⊢
  have HFD : Hid (Fds w (.slice d1 C.fields.length d2) C.fields) := hid (by rw [← hvd]; exact hat.fields)
  have HCALL := hid hcall
  have HST := hid hstop; have HUP := hid hup
  obtain ⟨nm, hnm⟩ : ∃ nm, C.nm = nm := ⟨_, rfl⟩
  obtain ⟨sup, hsup⟩ : ∃ sup, C.sup = sup := ⟨_, rfl⟩
  obtain ⟨face, hface⟩ : ∃ face, C.face = face := ⟨_, rfl⟩
  obtain ⟨F, hF⟩ : ∃ F, C.fields = F := ⟨_, rfl⟩
  obtain ⟨nf, hnf⟩ : ∃ nf, C.faces.length = nf := ⟨_, rfl⟩
  obtain ⟨nt, hnt⟩ : ∃ nt, C.mets.length = nt := ⟨_, rfl⟩
  rw [hnm, hsup, hface, hF, hnf, hnt] at HCALL
  rw [hsup] at HST HUP
  rw [hF] at HFD hfn ⊢
  generalize (getL l n).isSome = is at HCALL
  obtain ⟨T, hT⟩ : ∃ T, P ++ F.map Fd.ty = T := ⟨_, rfl⟩
  have HT := hid hT
  rw [hT]
  clear hl hcall hstop hup hvd hat hC e hnm hsup hface hF hnf hnt hT
  go_enter Tryz.func39, Tryz.ntmps39
  go_wp2_with fail
  refine HCALL.out.mono ?_
  rintro e w1 ⟨rfl, hb1⟩
  have HB1 := hid hb1
  clear hb1
  obtain ⟨B, hB⟩ : ∃ B, w1.heap.size = B := ⟨_, rfl⟩
  obtain ⟨W2, hW2⟩ : ∃ W2, w1.alloc (.cells #[.string nm, .string sup, .slice f1 nf f2, .bool face, .slice d1 F.length d2, .slice m1 nt m2] 74) = W2 := ⟨_, rfl⟩
  have HR2 : Hid (W2.heap[B]? = some (.cells #[.string nm, .string sup, .slice f1 nf f2, .bool face, .slice d1 F.length d2, .slice m1 nt m2] 74 (0, 0))) := hid (hW2 ▸ hB ▸ heap_alloc_new _ _)
  have HB2 : Hid (Below w.heap.size w W2) := hid (hW2 ▸ HB1.out.alloc HB1.out.size _)
  have HX : Hid (∀ u, Below W2.heap.size W2 u → u.cell? ⟨B, 1, none⟩ = some (.string sup) ∧ u.cell? ⟨B, 4, none⟩ = some (.slice d1 F.length d2)) := hid (fun u hu => by
   have h4 := (hu.block B (Array.getElem?_eq_some_iff.1 HR2.out).1).trans HR2.out
   constructor <;> (rw [cell_of_row _ _ _ _ _ _ h4]; rfl))
  have HF2 := hid (HFD.out.below HB2.out)
  obtain ⟨x1, x4⟩ := HX.out W2 (Below.refl _ _)
  by_cases h0 : sup = noB
  ·have h1 : sup.toList = [] := (noB_iff sup).1 h0
   have h2 : (sup.toList == []) = true := by rw [h1]; rfl
   have HPN := hid (HST.out h0)
   have HS0 : Hid (Out W2 W2 9 1 (.slice none 0 0) (P ++ (F.take 0).map Fd.ty).length ((P ++ (F.take 0).map Fd.ty).map .string)) := hid (by
    rw [HPN.out]; exact Out.nil _ _ _)
   clear h0
   go_wp2
   go_loopw [7, 8] (fun v7 v8 wr => ∃ k : Nat, k ≤ F.length ∧ v8 = .int .i64 (k : Int) ∧ Hid (Out W2 wr 9 1 v7 (P ++ (F.take k).map Fd.ty).length ((P ++ (F.take k).map Fd.ty).map .string))) (fun _ v8 _ => F.length - (intOf v8).toNat)
   case atStart => exact ⟨0, Nat.zero_le _, rfl, HS0⟩
   case round =>
    obtain ⟨k, hk, rfl, HO⟩ := hrel
    obtain ⟨wa, hwa⟩ : ∃ wa, wa = wr := ⟨_, rfl⟩
    subst hwa
    clear HS0 x1 x4
    have hk0 : (0 : Int) ≤ (k : Int) := by omega
    obtain ⟨x1, x4⟩ := HX.out wa HO.out.below
    obtain ⟨S, hS⟩ : ∃ S, P ++ (F.take k).map Fd.ty = S := ⟨_, rfl⟩
    have HSS := hid hS
    have hSl : S.length ≤ 104000024 := by rw [← hS, List.length_append, List.length_map, List.length_take]; omega
    rw [hS] at HO
    clear hS
    obtain ⟨a7, c7, hu7⟩ := HO.out.sl.val
    subst hu7
    by_cases hlt : k < F.length
    ·have hk1 : (k : Int) < (F.length : Int) := by omega
     obtain ⟨bf, off, haf, hc0, hc1⟩ := fd_at (HF2.out.below HO.out.below) hlt
     subst haf
     have HNX : Hid (P ++ (F.take (k + 1)).map Fd.ty = S ++ [F[k].ty]) := hid (by
      rw [List.take_add_one, List.getElem?_eq_getElem hlt, List.map_append, ← List.append_assoc, HSS.out]; rfl)
     generalize F[k] = x at hc0 hc1 HNX
     obtain ⟨ty, hty⟩ : ∃ ty, x.ty = ty := ⟨_, rfl⟩
     rw [hty] at hc1 HNX
     clear hty hc0
     go_wp2_with (at_builtin; refine wpList_append_lit_at W2 wa _ rfl _ _ 58 rfl 9 (.string { data := #[] }) 1 16 1 Tryz.underlying58 infoS rfl (by decide) _ _ _ HO.out rfl rfl rfl ?_ ?_ ?_ ?_)
     all_goals first | (intro v2 w2' ho2 hg2 hat2) | omega | (simp [Value.oneCell']; done) | skip
     have HN : Hid (Out W2 w2' 9 1 v2 (P ++ (F.take (k + 1)).map Fd.ty).length ((P ++ (F.take (k + 1)).map Fd.ty).map .string)) := hid (by
      rw [HNX.out, List.length_append, List.map_append]
      exact ho2)
     clear ho2 hg2 hat2
     go_wp2_with fail
     go_roundw
     case rel => exact ⟨k + 1, by omega, by simp, HN⟩
     case measure => simp [intOf]; omega
    ·have HKE : Hid (S = T) := hid (by rw [← HSS.out, List.take_of_length_le (by omega), HT.out])
     have hge : ¬ (k : Int) < (F.length : Int) := by omega
     clear hlt
     go_wp2_with fail
     go_ret
     exact ⟨_, rfl, Out.since HB2.out (by rw [← HKE.out]; exact HO.out)⟩
  ·have h1 : ¬ sup.toList = [] := fun h => h0 ((noB_iff sup).2 h)
   have h2 : (sup.toList == []) = false := beq_eq_false_iff_ne.2 h1
   have HCU := hid (HUP.out h0 W2 (HL.out.below HB2.out))
   clear h0
   go_wp2_with fail
   refine HCU.out.mono ?_
   rintro e w3 ⟨v3, rfl, ho3⟩
   have HS0 : Hid (Out W2 w3 9 1 v3 (P ++ (F.take 0).map Fd.ty).length ((P ++ (F.take 0).map Fd.ty).map .string)) := hid (by
    simpa using ho3)
   obtain ⟨x1, x4⟩ := HX.out w3 ho3.below
   clear ho3
   go_wp2
   go_loopw [7, 8] (fun v7 v8 wr => ∃ k : Nat, k ≤ F.length ∧ v8 = .int .i64 (k : Int) ∧ Hid (Out W2 wr 9 1 v7 (P ++ (F.take k).map Fd.ty).length ((P ++ (F.take k).map Fd.ty).map .string))) (fun _ v8 _ => F.length - (intOf v8).toNat)
   case atStart => exact ⟨0, Nat.zero_le _, rfl, HS0⟩
   case round =>
    obtain ⟨k, hk, rfl, HO⟩ := hrel
    obtain ⟨wa, hwa⟩ : ∃ wa, wa = wr := ⟨_, rfl⟩
    subst hwa
    clear HS0 x1 x4
    have hk0 : (0 : Int) ≤ (k : Int) := by omega
    obtain ⟨x1, x4⟩ := HX.out wa HO.out.below
    obtain ⟨S, hS⟩ : ∃ S, P ++ (F.take k).map Fd.ty = S := ⟨_, rfl⟩
    have HSS := hid hS
    have hSl : S.length ≤ 104000024 := by rw [← hS, List.length_append, List.length_map, List.length_take]; omega
    rw [hS] at HO
    clear hS
    obtain ⟨a7, c7, hu7⟩ := HO.out.sl.val
    subst hu7
    by_cases hlt : k < F.length
    ·have hk1 : (k : Int) < (F.length : Int) := by omega
     obtain ⟨bf, off, haf, hc0, hc1⟩ := fd_at (HF2.out.below HO.out.below) hlt
     subst haf
     have HNX : Hid (P ++ (F.take (k + 1)).map Fd.ty = S ++ [F[k].ty]) := hid (by
      rw [List.take_add_one, List.getElem?_eq_getElem hlt, List.map_append, ← List.append_assoc, HSS.out]; rfl)
     generalize F[k] = x at hc0 hc1 HNX
     obtain ⟨ty, hty⟩ : ∃ ty, x.ty = ty := ⟨_, rfl⟩
     rw [hty] at hc1 HNX
     clear hty hc0
     go_wp2_with (at_builtin; refine wpList_append_lit_at W2 wa _ rfl _ _ 58 rfl 9 (.string { data := #[] }) 1 16 1 Tryz.underlying58 infoS rfl (by decide) _ _ _ HO.out rfl rfl rfl ?_ ?_ ?_ ?_)
     all_goals first | (intro v2 w2' ho2 hg2 hat2) | omega | (simp [Value.oneCell']; done) | skip
     have HN : Hid (Out W2 w2' 9 1 v2 (P ++ (F.take (k + 1)).map Fd.ty).length ((P ++ (F.take (k + 1)).map Fd.ty).map .string)) := hid (by
      rw [HNX.out, List.length_append, List.map_append]
      exact ho2)
     clear ho2 hg2 hat2
     go_wp2_with fail
     go_roundw
     case rel => exact ⟨k + 1, by omega, by simp, HN⟩
     case measure => simp [intOf]; omega
    ·have HKE : Hid (S = T) := hid (by rw [← HSS.out, List.take_of_length_le (by omega), HT.out])
     have hge : ¬ (k : Int) < (F.length : Int) := by omega
     clear hlt
     go_wp2_with fail
     go_ret
     exact ⟨_, rfl, Out.since HB2.out (by rw [← HKE.out]; exact HO.out)⟩
 induction hln with
 | @stop n h0 =>
  intro _ va w hl
  have := key n [] (by simp) va w hl (fun _ => rfl) (fun h => absurd h0 h)
  rw [lay_stop]
  simpa using this
 | @up n ln h0 hl2 ih =>
  intro hn va w hl
  have hn2 : ln.length ≤ 13000002 := by simp only [List.length_cons] at hn; omega
  have h8 := lay_len hfd ln
  have := key n (layT W ln) (by omega) va w hl (fun h => absurd h h0) (fun _ u hu => ih hn2 va u hu)
  rw [lay_up]
  exact this
end Go.Proofs.YtlhobhnbgdicjaaGreatDoor.worlds
namespace Go.Proofs.YtlhobhnbgdicjaaGreatDoor.worlds
open Go.RowKit lib maps classes errs descs names grow ins
structure RW (l : List CV) (W : WL) : Prop where
 get : ∀ n, getK W n = getL l n
 good : GoodW W
 obj : ∀ n, (getK W n).isSome = true → objB ∈ everyU W n
 small : SmallL l
theorem rw_of {l : List CV} {W : WL} (h : readW l = (0, W)) (hs : SmallL l) : RW l W := by
 have hg : ∀ n, getK W n = getL l n := by
  have := (world_eq l).2
  rw [h] at this
  exact this rfl
 exact ⟨hg, read_good h, fun n hn => obj_above h hg hn, hs⟩
theorem RW.fields {l : List CV} {W : WL} (h : RW l W) (n : ByteArray) : (cAt W n).fields.length ≤ 8 := by
 unfold cAt
 cases hg : getK W n with
 | none => simp [zeroC]
 | some c => exact h.good.fields n c hg
theorem RW.line {l : List CV} {W : WL} (h : RW l W) (n : ByteArray) : Line W n (lineOf W n) ∧ (lineOf W n).length ≤ 13000002 := by
 have h1 := line_of h.good.sound n
 have h2 : (everyU W n).length ≤ 13000002 := by
  have h3 := nodup_le (every_nodup W n) (m := n :: upAll l n) (fun x hx => (mem_name_up h.get).2 hx)
  have h4 := upR_most l n (mostL l n)
  have h5 := h.small.most n
  rw [List.length_cons] at h3
  unfold upAll at h3
  omega
 obtain ⟨m, h3, h4⟩ := has_line h.good.sound _ n h2
 rw [h1.1.same h3]
 exact ⟨h3, h4⟩
theorem rlay_any {l : List CV} {W : WL} (h : RW l W) (n : ByteArray) (va : Value) (w : World) (hl : Clss w va l) :
  Calls Tryz.prog 39 #[va, .string n] w fun e w' => ∃ v, e = .returned v ∧ Out w w' 9 1 v (layOf W n).length ((layOf W n).map .string) :=
 rfields_any h.get h.fields h.small.len (h.line n).1 (h.line n).2 va w hl
theorem extract_tail {s : ByteArray} {y : UInt8} {e : List UInt8} (h : s.data.toList = y :: e) : s.extract 1 s.size = bs e := by
 have hl := size_len s
 rw [h, List.length_cons] at hl
 have : (s.extract 1 s.size).data.toList = e := by
  rw [ByteArray.data_extract, Array.toList_extract, List.extract_eq_take_drop, h, ← hl]
  simp
 cases hx : s.extract 1 s.size with
 | mk d => rw [hx] at this; unfold bs; congr 1; rw [← this]
theorem head_at {s : ByteArray} {y : UInt8} {e : List UInt8} (h : s.data.toList = y :: e) (h0 : 0 < s.size) : s[0] = y := by
 obtain ⟨d⟩ := s
 obtain ⟨d⟩ := d
 simp only at h
 subst h; rfl
set_option maxRecDepth 100000 in
set_option maxHeartbeats 8000000 in
theorem rtypes_any {l : List CV} {W : WL} (hR : RW l W) (va : Value) (x : Th) (w : World) (hl : Clss w va l) (hx : Vls w x.vh x.has) (hty : isTy x.ty.data.toList = true) (hn : x.has.length ≤ 2000000) :
  Calls Tryz.prog 23 #[va, .agg #[.string x.ty, x.vh]] w fun e w' => ∃ v, e = .returned v ∧ Out w w' 9 1 v (typesT W x.ty.data.toList x.has.length).length ((typesT W x.ty.data.toList x.has.length).map .string) := by
 obtain ⟨ty, vh, has⟩ := x
 simp only at hx hty hn ⊢
 obtain ⟨ah, ch, rfl⟩ := hx.val
 obtain ⟨y, e0, hT⟩ : ∃ y e0, ty.data.toList = y :: e0 := by
  cases h : ty.data.toList with
  | nil => rw [h] at hty; exact absurd hty (by decide)
  | cons y e0 => exact ⟨y, e0, rfl⟩
 have hsz : 0 < ty.size := by have := size_len ty; rw [hT, List.length_cons] at this; omega
 have h25 := isTy_size hty
 have hh := head_at hT hsz
 have HL := hid hl; have HR := hid hR
 obtain ⟨W1, hW1⟩ : ∃ W1, w.alloc (.cells #[.string ty, .slice ah has.length ch] 42) = W1 := ⟨_, rfl⟩
 have HB1 : Hid (Below w.heap.size w W1) := hid (hW1 ▸ ext_alloc _ _)
 obtain ⟨B, hB⟩ : ∃ B, w.heap.size = B := ⟨_, rfl⟩
 have HR1 : Hid (W1.heap[B]? = some (.cells #[.string ty, .slice ah has.length ch] 42 (0, 0))) := hid (hW1 ▸ hB ▸ heap_alloc_new _ _)
 have HX : Hid (∀ u, Below W1.heap.size W1 u → u.cell? ⟨B, 0, none⟩ = some (.string ty) ∧ u.cell? ⟨B, 1, none⟩ = some (.slice ah has.length ch)) := hid (fun u hu => by
  have h4 := (hu.block B (Array.getElem?_eq_some_iff.1 HR1.out).1).trans HR1.out
  constructor <;> (rw [cell_of_row _ _ _ _ _ _ h4]; rfl))
 obtain ⟨x0, x1⟩ := HX.out W1 (Below.refl _ _)
 by_cases hy : y = 91
 ·have HZ : Hid (typesT W ty.data.toList has.length = List.replicate has.length (ty.extract 1 ty.size)) := hid (by
   rw [extract_tail hT, hT, hy]; rfl)
  have hty0 : ty[0] = 91 := by rw [hh, hy]
  obtain ⟨T, hTT⟩ : ∃ T, typesT W ty.data.toList has.length = T := ⟨_, rfl⟩
  rw [hTT] at HZ ⊢
  clear hT hl hx hy hh hTT
  go_enter Tryz.func23, Tryz.ntmps23
  go_wp2
  go_loopw [5, 6] (fun v5 v6 wr => ∃ k : Nat, k ≤ has.length ∧ v6 = .int .i64 (k : Int) ∧ Hid (Out W1 wr 9 1 v5 k ((List.replicate k (ty.extract 1 ty.size)).map .string))) (fun _ v6 _ => has.length - (intOf v6).toNat)
  case atStart => exact ⟨0, Nat.zero_le _, rfl, hid (Out.nil _ _ _)⟩
  case round =>
   obtain ⟨k, hk, rfl, HO⟩ := hrel
   obtain ⟨wa, hwa⟩ : ∃ wa, wa = wr := ⟨_, rfl⟩
   subst hwa
   clear x0 x1
   have hk0 : (0 : Int) ≤ (k : Int) := by omega
   obtain ⟨x0, x1⟩ := HX.out wa HO.out.below
   obtain ⟨a5, c5, hu5⟩ := HO.out.sl.val
   subst hu5
   by_cases hlt : k < has.length
   ·have hk1 : (k : Int) < (has.length : Int) := by omega
    go_wp2_with (at_builtin; refine wpList_append_lit_at W1 wa _ rfl _ _ 58 rfl 9 (.string { data := #[] }) 1 16 1 Tryz.underlying58 infoS rfl (by decide) _ _ _ HO.out rfl rfl rfl ?_ ?_ ?_ ?_)
    all_goals first | (intro v2 w2' ho2 hg2 hat2) | omega | (simp [Value.oneCell']; done) | skip
    have HN : Hid (Out W1 w2' 9 1 v2 (k + 1) ((List.replicate (k + 1) (ty.extract 1 ty.size)).map .string)) := hid (by
     rw [List.replicate_succ', List.map_append, List.map_replicate]
     exact ho2)
    clear ho2 hg2 hat2
    go_wp2_with fail
    go_roundw
    case rel => exact ⟨k + 1, by omega, by simp, HN⟩
    case measure => simp [intOf]; omega
   ·obtain rfl : k = has.length := by omega
    have hge : ¬ (has.length : Int) < (has.length : Int) := by omega
    have HTL : Hid (has.length = T.length) := hid (by rw [HZ.out, List.length_replicate])
    have HE := hid (Out.since HB1.out HO.out)
    rw [← HZ.out] at HE
    clear hlt HO
    go_wp2_with fail
    go_ret
    exact ⟨_, rfl, by rw [← HTL.out]; first | exact HE.out | (subst hB; exact HE.out)⟩
 ·have HZ : Hid (typesT W ty.data.toList has.length = layOf W (classN ty.data.toList)) := hid (by rw [hT]; show (if y = 91 then List.replicate has.length (bs e0) else layOf W (classN (y :: e0))) = _; rw [if_neg hy])
  have hty0 : ¬ ty[0] = 91 := by rw [hh]; exact hy
  have u91 : ¬ (ty[0].toNat : Int) = 91 := fun h => hty0 (UInt8.toNat_inj.1 (by simpa using (by omega : ty[0].toNat = 91)))
  have HCI := hid (classIn_any ty W1 hty)
  have HLY := hid (rlay_any hR (classN ty.data.toList) va W1 (hl.below HB1.out))
  obtain ⟨T, hTT⟩ : ∃ T, typesT W ty.data.toList has.length = T := ⟨_, rfl⟩
  rw [hTT] at HZ ⊢
  rw [← HZ.out] at HLY
  clear hT hl hx hy hh hTT
  go_enter Tryz.func23, Tryz.ntmps23
  go_wp2_with fail
  refine HCI.out.mono ?_
  rintro e w4 ⟨rfl, rfl⟩
  go_wp2_with fail
  refine HLY.out.mono ?_
  rintro e w5 ⟨v, rfl, ho5⟩
  have HE := hid (Out.since HB1.out ho5)
  obtain ⟨av, cv, hv⟩ := ho5.sl.val
  subst hv
  clear ho5
  go_wp2
  go_ret
  exact ⟨_, rfl, by first | exact HE.out | (subst hB; exact HE.out)⟩
end Go.Proofs.YtlhobhnbgdicjaaGreatDoor.worlds
