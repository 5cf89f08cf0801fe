/- Kinds and what two of them have in common, in plain words. No condition. -/
import Derived.Test.YtloonnfelgokmaaGreatDoorZWldZ
import Derived.Test.YtloonnfelgokmaaGreatDoorZWldY
set_option maxRecDepth 100000
set_option maxHeartbeats 16000000
set_option linter.unusedSimpArgs false
set_option linter.unusedVariables false
namespace Go.Proofs.YtloonnfelgokmaaGreatDoor.worlds
open Go.RowKit lib maps classes errs descs names
def joinC (W : WL) (a b : ByteArray) : ByteArray :=
 if (cAt W a).face = true ∨ (cAt W b).face = true then objB else ((lineOf W a).find? fun c => inTexts c (lineOf W b)).getD objB
def joinK (W : WL) : List UInt8 → List UInt8 → List UInt8
 | [], b => if b = [] then [] else [84]
 | x :: a, b =>
  if x :: a = b then x :: a else if x :: a = [78] ∧ refs b = true then b else if b = [78] ∧ refs (x :: a) = true then x :: a
  else if refs (x :: a) = false ∨ refs b = false then [84]
  else match b with
   | [] => objT
   | y :: c => if x = 76 ∧ y = 76 then thingB (joinC W (classN (x :: a)) (classN (y :: c)))
    else if x = 91 ∧ y = 91 ∧ refs a = true ∧ refs c = true then 91 :: joinK W a c else objT
def RightK (W : WL) (k : List UInt8) : Prop := k = [78] ∨ k = [84] ∨ (isTy k = true ∧ (classB k ≠ [] → (getK W (classN k)).isSome = true))
theorem kind_right {W : WL} {k : List UInt8} : kindF W k = 0 ↔ RightK W k := by
 unfold kindF RightK
 by_cases h1 : k = [78] ∨ k = [84]
 ·rw [if_pos h1]
  refine ⟨fun _ => ?_, fun _ => rfl⟩
  rcases h1 with h | h
  ·exact .inl h
  ·exact .inr (.inl h)
 rw [if_neg h1]
 by_cases h2 : isTy k = false
 ·rw [if_pos h2]
  refine ⟨fun h => (by cases h), fun h => ?_⟩
  rcases h with h | h | h
  ·exact absurd (.inl h) h1
  ·exact absurd (.inr h) h1
  ·rw [h.1] at h2; cases h2
 rw [if_neg h2]
 have h2' : isTy k = true := by simpa using h2
 by_cases h3 : classB k ≠ [] ∧ getK W (classN k) = none
 ·rw [if_pos h3]
  refine ⟨fun h => (by cases h), fun h => ?_⟩
  rcases h with h | h | h
  ·exact absurd (.inl h) h1
  ·exact absurd (.inr h) h1
  ·have := h.2 h3.1
   rw [h3.2] at this; cases this
 ·rw [if_neg h3]
  refine ⟨fun _ => .inr (.inr ⟨h2', fun hb => ?_⟩), fun _ => rfl⟩
  cases hg : getK W (classN k) with
  | none => exact absurd ⟨hb, hg⟩ h3
  | some _ => rfl
structure Closed (W : WL) : Prop where
 good : GoodW W
 sup : ∀ n c, getK W n = some c → n = objB ∨ (c.sup ≠ noB ∧ (getK W c.sup).isSome = true)
theorem read_closed {l : List CV} {W : WL} (h : readW l = (0, W)) : Closed W := by
 have hg := read_good h
 refine ⟨hg, fun n c hc => ?_⟩
 unfold readW at h
 by_cases h0 : 10 < l.length
 ·rw [if_pos h0] at h; simp at h
 rw [if_neg h0] at h
 obtain ⟨f, V, hV⟩ : ∃ f V, load firstW l = (f, V) := ⟨_, _, rfl⟩
 rw [hV] at h
 simp only at h
 by_cases h1 : f ≠ 0
 ·rw [if_pos h1] at h
  simp only [Prod.mk.injEq] at h
  exact absurd h.1 h1
 rw [if_neg h1] at h
 obtain rfl : f = 0 := by simpa using h1
 by_cases h2 : firstF (joinFault V) l ≠ 0
 ·rw [if_pos h2] at h
  simp only [Prod.mk.injEq] at h
  exact absurd h.1 h2
 rw [if_neg h2] at h
 by_cases h3 : firstF (roundFault V) l ≠ 0
 ·rw [if_pos h3] at h
  simp at h
 rw [if_neg h3] at h
 simp only [Prod.mk.injEq, true_and] at h
 subst h
 obtain ⟨g1, g2, g3⟩ := load_get hV
 have h2' : firstF (joinFault V) l = 0 := by simpa using h2
 rcases g3 n c hc with h4 | ⟨h4, h5⟩
 ·simp only [firstW, getK] at h4
  by_cases e : n = objB
  ·exact .inl e
  ·rw [if_neg e] at h4
   by_cases e2 : n = fltB
   ·rw [if_pos e2] at h4
    cases h4
    refine .inr ⟨fun e => ?_, by show (getK V objB).isSome = true; rw [hg.obj]; rfl⟩
    have := congrArg ByteArray.size e
    exact absurd this (by decide)
   ·rw [if_neg e2] at h4; cases h4
 ·have := ff_all.1 h2' c h4
  unfold joinFault at this
  by_cases h6 : c.sup = noB
  ·rw [if_pos h6] at this; cases this
  rw [if_neg h6] at this
  by_cases h7 : isIn V c.sup ≠ 0
  ·rw [if_pos h7] at this; cases this
  refine .inr ⟨h6, ?_⟩
  unfold isIn at h7
  by_cases h8 : (getK V c.sup).isSome = true
  ·exact h8
  ·rw [if_neg h8] at h7; exact absurd (by decide) h7
theorem Closed.cAt {W : WL} {n : ByteArray} {c : CV} (h : getK W n = some c) : cAt W n = c := by unfold worlds.cAt; rw [h]; rfl
theorem Closed.line {W : WL} (h : Closed W) {n : ByteArray} (hn : (getK W n).isSome = true) : (∀ c ∈ lineOf W n, (getK W c).isSome = true ∧ c ∈ everyU W n) ∧ objB ∈ lineOf W n ∧ n ∈ lineOf W n := by
 have hl := (line_of h.good.sound n).1
 generalize lineOf W n = L at hl
 induction hl with
 | @stop n h0 =>
  obtain ⟨c, hc⟩ := Option.isSome_iff_exists.1 hn
  have e := Closed.cAt hc
  rcases h.sup n c hc with rfl | ⟨h1, _⟩
  ·refine ⟨fun d hd => ?_, List.mem_singleton_self _, List.mem_singleton_self _⟩
   obtain rfl := List.mem_singleton.1 hd
   exact ⟨hn, mem_every.2 .self⟩
  ·rw [e] at h0; exact absurd h0 h1
 | @up n L h0 hl ih =>
  obtain ⟨c, hc⟩ := Option.isSome_iff_exists.1 hn
  have e := Closed.cAt hc
  rcases h.sup n c hc with rfl | ⟨h1, h2⟩
  ·rw [h.good.obj] at hc
   cases hc
   rw [e] at h0
   exact absurd rfl h0
  ·have h3 := ih (by rw [e]; exact h2)
   refine ⟨fun d hd => ?_, List.mem_cons_of_mem _ h3.2.1, List.mem_cons_self ..⟩
   rcases List.mem_cons.1 hd with rfl | hd
   ·exact ⟨hn, mem_every.2 .self⟩
   ·obtain ⟨h4, h5⟩ := h3.1 d hd
    refine ⟨h4, mem_every.2 (Up.trans (Up.step .self ?_) (mem_every.1 h5))⟩
    unfold above aboveC
    rw [if_neg h0]
    exact List.mem_cons_self ..
theorem Closed.obj {W : WL} (h : Closed W) {n : ByteArray} (hn : (getK W n).isSome = true) : objB ∈ everyU W n := ((h.line hn).1 _ (h.line hn).2.1).2
theorem Closed.nm {W : WL} (h : Closed W) {n : ByteArray} (hn : (getK W n).isSome = true) : nameOk n.data.toList = true := by
 obtain ⟨c, hc⟩ := Option.isSome_iff_exists.1 hn
 obtain ⟨h1, h2⟩ := h.good.cls n c hc
 rcases h2 with ⟨rfl, _⟩ | ⟨rfl, _⟩ | h2
 ·decide
 ·decide
 ·rw [h1]
  unfold clsFault at h2
  by_cases a1 : headBad c = true
  ·rw [if_pos a1] at h2; cases h2
  unfold headBad at a1
  by_cases a2 : nameOk c.nm.data.toList = false
  ·rw [if_pos a2] at a1; exact absurd rfl a1
  ·simpa using a2
theorem line_less {W : WL} (hs : Sound W) {n c : ByteArray} (hc : c ∈ lineOf W n) (hne : c ≠ n) : (lineOf W c).length < (lineOf W n).length := by
 have hl := (line_of hs n).1
 generalize lineOf W n = L at hl hc
 induction hl with
 | @stop n h0 =>
  obtain rfl := List.mem_singleton.1 hc
  exact absurd rfl hne
 | @up n L h0 hl ih =>
  rcases List.mem_cons.1 hc with rfl | hc
  ·exact absurd rfl hne
  ·by_cases h : c = (cAt W n).sup
   ·subst h
    have := (line_of hs (cAt W n).sup).1.same hl
    rw [this, List.length_cons]
    exact Nat.lt_succ_self _
   ·have := ih h hc
    rw [List.length_cons]
    omega
theorem line_one {W : WL} (hs : Sound W) (n : ByteArray) : 1 ≤ (lineOf W n).length := line_pos (line_of hs n).1
theorem joinC_line {W : WL} (h : Closed W) {a b : ByteArray} (ha : (getK W a).isSome = true) (hb : (getK W b).isSome = true) : joinC W a b ∈ lineOf W a ∧ joinC W a b ∈ lineOf W b := by
 unfold joinC
 split
 ·exact ⟨(h.line ha).2.1, (h.line hb).2.1⟩
 ·cases hf : (lineOf W a).find? fun c => inTexts c (lineOf W b) with
  | none => exact ⟨(h.line ha).2.1, (h.line hb).2.1⟩
  | some c =>
   have h1 := List.find?_some (p := fun c => inTexts c (lineOf W b)) hf
   exact ⟨List.mem_of_find?_eq_some hf, inT_mem.1 h1⟩
theorem thing_ty {n : ByteArray} (h : nameOk n.data.toList = true) : isTy (thingB n) = true := by
 have := core_tail (p := []) (t := thingB n) (fun _ h => absurd h List.not_mem_nil) (by decide) (.inr (.inr ⟨n.data.toList, rfl, h⟩)) []
 rw [List.nil_append, List.append_nil, List.length_nil, Nat.zero_add] at this
 simp only [isTy, decide_eq_true_eq]
 rw [this]
 exact ⟨by simp [thingB], rfl⟩
theorem bs_list (n : ByteArray) : bs n.data.toList = n := by
 unfold bs; cases n; simp
theorem thing_cls {n : ByteArray} (h : nameOk n.data.toList = true) : classB (thingB n) = n.data.toList ∧ classN (thingB n) = n := by
 have hc : coreB (thingB n) = thingB n := by
  unfold coreB thingB
  rw [List.dropWhile_cons]; rfl
 have h1 : classB (thingB n) = n.data.toList := by
  have hw : isWd (thingB n) = false := by
   unfold isWd thingB
   rw [decide_eq_false_iff_not]
   rintro (h | h) <;> simp at h
  unfold classB
  rw [hc, if_neg (by rw [hw]; decide)]
  unfold thingB
  simp
 exact ⟨h1, by unfold classN; rw [h1, bs_list]⟩
theorem thing_right {W : WL} (h : Closed W) {n : ByteArray} (hn : (getK W n).isSome = true) : RightK W (thingB n) := by
 have h1 := h.nm hn
 exact .inr (.inr ⟨thing_ty h1, fun _ => by rw [(thing_cls h1).2]; exact hn⟩)
theorem ref_thing {W : WL} {a : List UInt8} (hc : Closed W) (h : RightK W (76 :: a)) : (getK W (classN (76 :: a))).isSome = true ∧ 76 :: a = thingB (classN (76 :: a)) := by
 rcases h with h | h | ⟨h1, h2⟩
 ·simp at h
 ·simp at h
 ·obtain ⟨p, t, hpt, hp, h3, hcr, hcb⟩ := right_parts h1
  cases p with
  | cons z p =>
   have := hp z (List.mem_cons_self ..)
   rw [List.cons_append, List.cons.injEq, this] at hpt
   exact absurd hpt.1 (by decide)
  | nil =>
   rw [List.nil_append] at hpt
   rcases hcr with hcr | hcr | ⟨nm, hcr, hnm⟩
   ·rw [hcr] at hpt; simp at hpt
   ·rw [hcr] at hpt; simp at hpt
   ·have e : (76 :: a) = thingB (bs nm) := by rw [hpt, hcr]; rfl
    have hcl := thing_cls (n := bs nm) hnm
    rw [e, hcl.2]
    rw [e, hcl.2, hcl.1] at h2
    refine ⟨h2 fun e0 => ?_, rfl⟩
    have e1 : nm = [] := e0
    rw [e1] at hnm
    exact absurd hnm (by decide)
theorem right_ne {W : WL} {k : List UInt8} (h : RightK W k) : k ≠ [] := fun e => by
 rcases h with h | h | h
 ·rw [e] at h; cases h
 ·rw [e] at h; cases h
 ·rw [e] at h
  exact absurd h.1 (by decide)
theorem classB_arr (a : List UInt8) : classB (91 :: a) = classB a := by
 have : coreB (91 :: a) = coreB a := by unfold coreB; rw [List.dropWhile_cons]; rfl
 unfold classB; rw [this]
theorem arr_right {W : WL} {a : List UInt8} (h : RightK W (91 :: a)) : RightK W a ∧ isTy a = true := by
 rcases h with h | h | ⟨h1, h2⟩
 ·simp at h
 ·simp at h
 ·refine ⟨.inr (.inr ⟨ty_tail h1, fun hb => ?_⟩), ty_tail h1⟩
  have := h2 (by rw [classB_arr]; exact hb)
  unfold classN at this ⊢
  rw [classB_arr] at this
  exact this
theorem isTy_no : isTy [78] = false ∧ isTy [84] = false := ⟨by decide +kernel, by decide +kernel⟩
theorem objT_thing : objT = thingB objB := rfl
theorem obj_right {W : WL} (h : Closed W) : RightK W objT := by rw [objT_thing]; exact thing_right h (by rw [h.good.obj]; rfl)
theorem refs_ty {W : WL} {k : List UInt8} (h : RightK W k) (hr : refs k = true) : isTy k = true := by
 rcases h with rfl | rfl | h
 ·exact absurd hr (by decide)
 ·exact absurd hr (by decide)
 ·exact h.1
theorem refs_cases {k : List UInt8} (h : refs k = true) : (∃ a, k = 76 :: a) ∨ (∃ a, k = 91 :: a) := by
 cases k with
 | nil => exact absurd h (by decide)
 | cons x a =>
  rcases refs_head.1 h with rfl | rfl
  ·exact .inl ⟨a, rfl⟩
  ·exact .inr ⟨a, rfl⟩
def rankK (W : WL) : List UInt8 → Nat
 | [] => 0
 | x :: a => if x :: a = [84] then 0 else if x :: a = [78] then 5 * (most W + 2)
  else if x = 76 then (lineOf W (classN (x :: a))).length else if x = 91 then (most W + 2) + rankK W a else 1
theorem rank_T (W : WL) : rankK W [84] = 0 := if_pos rfl
theorem rank_N (W : WL) : rankK W [78] = 5 * (most W + 2) := by unfold rankK; rw [if_neg (by decide), if_pos rfl]
theorem rank_L (W : WL) (a : List UInt8) : rankK W (76 :: a) = (lineOf W (classN (76 :: a))).length := by unfold rankK; rw [if_neg (by simp), if_neg (by simp), if_pos rfl]
theorem rank_A (W : WL) (a : List UInt8) : rankK W (91 :: a) = (most W + 2) + rankK W a := by rw [rankK, if_neg (by simp), if_neg (by simp), if_neg (by decide), if_pos rfl]
theorem refs_join (W : WL) {x y : UInt8} {a c : List UInt8} (hx : refs (x :: a) = true) (hy : refs (y :: c) = true) : refs (joinK W (x :: a) (y :: c)) = true := by
 rw [joinK]
 split
 ·exact hx
 split
 ·exact hy
 split
 ·exact hx
 split
 ·rename_i h; rw [hx, hy] at h; simp at h
 split
 ·rfl
 ·split
  ·rfl
  ·rfl
section
variable {W : WL} {x y : UInt8} {a c : List UInt8} (hne : ¬ x :: a = y :: c) (hx : refs (x :: a) = true) (hy : refs (y :: c) = true)
include hne hx hy
theorem join_head : joinK W (x :: a) (y :: c) = if x = 76 ∧ y = 76 then thingB (joinC W (classN (x :: a)) (classN (y :: c)))
    else if x = 91 ∧ y = 91 ∧ refs a = true ∧ refs c = true then 91 :: joinK W a c else objT := by
 rw [joinK, if_neg hne, if_neg (fun h => by rw [h.1] at hx; exact absurd hx (by decide)), if_neg (fun h => by rw [h.1] at hy; exact absurd hy (by decide)), if_neg (by rw [hx, hy]; simp)]
end
theorem join_same (W : WL) {k : List UInt8} : joinK W k k = k := by
 cases k with
 | nil => rfl
 | cons x a => rw [joinK, if_pos rfl]
theorem join_cases (W : WL) {a b : List UInt8} (ha : a ≠ []) (hb : b ≠ []) (P : List UInt8 → Prop) (h1 : a = b → P a) (h2 : a ≠ b → a = [78] → refs b = true → P b) (h3 : a ≠ b → b = [78] → refs a = true → P a)
  (h4 : a ≠ b → refs a = false ∨ refs b = false → P [84]) (h5 : a ≠ b → refs a = true → refs b = true → P (joinK W a b)) : P (joinK W a b) := by
 cases a with
 | nil => exact absurd rfl ha
 | cons x a =>
  by_cases e1 : x :: a = b
  ·subst e1; rw [join_same]; exact h1 rfl
  by_cases e2 : x :: a = [78] ∧ refs b = true
  ·unfold joinK; rw [if_neg e1, if_pos e2]; exact h2 e1 e2.1 e2.2
  by_cases e3 : b = [78] ∧ refs (x :: a) = true
  ·unfold joinK; rw [if_neg e1, if_neg e2, if_pos e3]; exact h3 e1 e3.1 e3.2
  by_cases e4 : refs (x :: a) = false ∨ refs b = false
  ·unfold joinK; rw [if_neg e1, if_neg e2, if_neg e3, if_pos e4]; exact h4 e1 e4
  ·have e5 : refs (x :: a) = true := by cases h : refs (x :: a) with | true => rfl | false => exact absurd (.inl h) e4
   have e6 : refs b = true := by cases h : refs b with | true => rfl | false => exact absurd (.inr h) e4
   exact h5 e1 e5 e6
theorem arr_of {W : WL} {k : List UInt8} (h : RightK W k) {a : List UInt8} (h2 : isTy (91 :: k) = true) : RightK W (91 :: k) := by
 rcases h with rfl | rfl | h
 ·have := ty_tail h2; rw [isTy_no.1] at this; cases this
 ·have := ty_tail h2; rw [isTy_no.2] at this; cases this
 ·refine .inr (.inr ⟨h2, fun hb => ?_⟩)
  have := h.2 (by rw [classB_arr] at hb; exact hb)
  unfold classN at this ⊢
  rw [classB_arr]; exact this
def deepK : List UInt8 → Nat
 | [] => 0
 | x :: a => if x = 91 then deepK a + 1 else 0
theorem deep_arr (a : List UInt8) : deepK (91 :: a) = deepK a + 1 := if_pos rfl
theorem deep_no {x : UInt8} (h : x ≠ 91) (a : List UInt8) : deepK (x :: a) = 0 := if_neg h
theorem deep_parts {p t : List UInt8} (hp : ∀ y ∈ p, y = 91) (ht : Core t) : deepK (p ++ t) = p.length := by
 induction p with
 | nil =>
  rw [List.nil_append]
  rcases ht with rfl | rfl | ⟨nm, rfl, _⟩ <;> rfl
 | cons z p ih =>
  rw [List.cons_append, hp z (List.mem_cons_self ..), deep_arr, ih fun y hy => hp y (List.mem_cons_of_mem _ hy), List.length_cons]
theorem ty_deeper {a : List UInt8} (h : isTy a = true) (hd : deepK a < 3) : isTy (91 :: a) = true := by
 obtain ⟨p, t, hpt, hp, h3, hc, _⟩ := right_parts h
 rw [hpt, deep_parts hp hc] at hd
 have := core_tail (p := 91 :: p) (t := t) (fun y hy => by
  rcases List.mem_cons.1 hy with rfl | hy
  ·rfl
  ·exact hp y hy) (by simp only [List.length_cons]; omega) hc []
 rw [List.append_nil, List.cons_append] at this
 simp only [isTy, decide_eq_true_eq]
 rw [hpt, this]
 simp only [List.length_cons, List.length_append]
 omega
theorem deep_ty {a : List UInt8} (h : isTy (91 :: a) = true) : deepK a < 3 := by
 obtain ⟨p, t, hpt, hp, h3, hc, _⟩ := right_parts h
 have := deep_parts hp hc
 rw [← hpt, deep_arr] at this
 omega
theorem join_refs {W : WL} (h : Closed W) : ∀ (a b : List UInt8), RightK W a → RightK W b → refs a = true → refs b = true →
  RightK W (joinK W a b) ∧ deepK (joinK W a b) ≤ deepK a ∧ doesL W a (joinK W a b) = true ∧ doesL W b (joinK W a b) = true ∧ (joinK W a b = a ∨ rankK W (joinK W a b) < rankK W a)
 | [], b, ha, _, _, _ => absurd rfl (right_ne ha)
 | x :: a, [], _, hb, _, _ => absurd rfl (right_ne hb)
 | x :: a, y :: c, ha, hb, hra, hrb => by
  have hOk := obj_right h
  have hN1 : ¬ objT = [84] := by decide
  have hO1 : ∀ (z : UInt8) (d : List UInt8), RightK W (z :: d) → refs (z :: d) = true → doesL W (z :: d) objT = true := fun z d hz hr => by
   by_cases e : z :: d = objT
   ·rw [e]; exact does_same W _ _
   have h78 : ¬ z :: d = [78] := fun e => by rw [e] at hr; exact absurd hr (by decide)
   rcases refs_head.1 hr with rfl | rfl
   ·rw [show objT = 76 :: objT.tail from rfl, does_cls (W := W) (x := 76) (y := 76) (a := d) (c := objT.tail) (by decide) e h78 rfl rfl]
    have := h.obj (ref_thing h hz).1
    rw [show classN (76 :: objT.tail) = objB from (thing_cls (n := objB) (by decide)).2, inT_mem.2 this]
    rfl
   ·rw [show objT = 76 :: objT.tail from rfl, does_obj (W := W) (x := 91) (y := 76) (a := d) (c := objT.tail) (by decide) e h78 rfl (by decide) rfl]
    rfl
  have hOr : ∀ (z : UInt8) (d : List UInt8), RightK W (z :: d) → refs (z :: d) = true → z :: d ≠ objT → rankK W objT < rankK W (z :: d) := fun z d hz hr hne => by
   have h1 : rankK W objT = 1 := by
    rw [show objT = 76 :: objT.tail from rfl, rank_L, show classN (76 :: objT.tail) = objB from (thing_cls (n := objB) (by decide)).2]
    have hl := (line_of h.good.sound objB).1
    have h0 : (cAt W objB).sup = noB := by rw [Closed.cAt h.good.obj]; rfl
    rw [hl.same (.stop h0)]; rfl
   rw [h1]
   rcases refs_head.1 hr with rfl | rfl
   ·rw [rank_L]
    obtain ⟨h2, h3⟩ := ref_thing h hz
    have h4 := line_less h.good.sound (h.line h2).2.1 (fun e => hne (by rw [h3, ← e]; rfl))
    have := line_one h.good.sound objB
    omega
   ·rw [rank_A]; omega
  by_cases e1 : x :: a = y :: c
  ·rw [← e1, join_same]
   exact ⟨ha, Nat.le_refl _, does_same W _ _, does_same W _ _, .inl rfl⟩
  rw [join_head e1 hra hrb]
  by_cases e2 : x = 76 ∧ y = 76
  ·rw [if_pos e2]
   obtain ⟨rfl, rfl⟩ := e2
   obtain ⟨h1, h2⟩ := ref_thing h ha
   obtain ⟨h3, h4⟩ := ref_thing h hb
   obtain ⟨h5, h6⟩ := joinC_line h h1 h3
   generalize joinC W (classN (76 :: a)) (classN (76 :: c)) = j at h5 h6
   obtain ⟨h7, h8⟩ := (h.line h1).1 j h5
   obtain ⟨_, h9⟩ := (h.line h3).1 j h6
   have hj := thing_cls (h.nm h7)
   have hd : ∀ d : List UInt8, j ∈ everyU W (classN (76 :: d)) → doesL W (76 :: d) (thingB j) = true := fun d hm => by
    by_cases e : 76 :: d = thingB j
    ·rw [← e]; exact does_same W _ _
    ·have := does_cls (W := W) (x := 76) (y := 76) (a := d) (c := j.data.toList ++ [59]) (by simp) e (by simp) rfl rfl
     rw [show thingB j = 76 :: (j.data.toList ++ [59]) from rfl, this]
     rw [show (76 :: (j.data.toList ++ [59])) = thingB j from rfl, hj.2, inT_mem.2 hm]
     rfl
   refine ⟨thing_right h h7, by show 0 ≤ _; exact Nat.zero_le _, hd a h8, hd c h9, ?_⟩
   by_cases e : j = classN (76 :: a)
   ·exact .inl (by rw [e]; exact h2.symm)
   ·refine .inr ?_
    rw [rank_L, show thingB j = 76 :: (j.data.toList ++ [59]) from rfl, rank_L, show (76 :: (j.data.toList ++ [59])) = thingB j from rfl, hj.2]
    exact line_less h.good.sound h5 e
  rw [if_neg e2]
  by_cases e3 : x = 91 ∧ y = 91 ∧ refs a = true ∧ refs c = true
  ·rw [if_pos e3]
   obtain ⟨rfl, rfl, hra2, hrb2⟩ := e3
   obtain ⟨h1, h1t⟩ := arr_right ha
   obtain ⟨h2, h2t⟩ := arr_right hb
   obtain ⟨g1, g2, g3, g4, g5⟩ := join_refs h a c h1 h2 hra2 hrb2
   have hrj : refs (joinK W a c) = true := by
    cases a with
    | nil => exact absurd rfl (right_ne h1)
    | cons z a => cases c with
     | nil => exact absurd rfl (right_ne h2)
     | cons z2 c => exact refs_join W hra2 hrb2
   have hjt : isTy (joinK W a c) = true := refs_ty g1 hrj
   have hda : deepK a < 3 := deep_ty (refs_ty ha rfl)
   have hty : isTy (91 :: joinK W a c) = true := ty_deeper hjt (by omega)
   have hd : ∀ d : List UInt8, refs d = true → doesL W d (joinK W a c) = true → doesL W (91 :: d) (91 :: joinK W a c) = true := fun d hr hd => by
    by_cases e : 91 :: d = 91 :: joinK W a c
    ·rw [← e]; exact does_same W _ _
    ·rw [does_arr (by simp) e (by simp) rfl rfl (by decide) (by decide), hr, hrj, hd]; rfl
   refine ⟨arr_of g1 (a := []) hty, by rw [deep_arr, deep_arr]; omega, hd a hra2 g3, hd c hrb2 g4, ?_⟩
   rcases g5 with g5 | g5
   ·exact .inl (by rw [g5])
   ·refine .inr ?_
    rw [rank_A, rank_A]; omega
  ·rw [if_neg e3]
   refine ⟨hOk, by show 0 ≤ _; exact Nat.zero_le _, hO1 x a ha hra, hO1 y c hb hrb, ?_⟩
   by_cases e : x :: a = objT
   ·exact .inl e.symm
   ·exact .inr (hOr x a ha hra e)
theorem does_top (W : WL) {k : List UInt8} (h : k ≠ []) : doesL W k [84] = true := by
 cases k with
 | nil => exact absurd rfl h
 | cons x a => unfold doesL; rw [if_pos (.inl rfl)]
theorem does_refl (W : WL) {k : List UInt8} (h : k ≠ []) : doesL W k k = true := by
 cases k with
 | nil => exact absurd rfl h
 | cons x a => exact does_same W x a
theorem does_null (W : WL) {k : List UInt8} (h : refs k = true) : doesL W [78] k = true := by unfold doesL; rw [if_pos (.inr (.inr ⟨rfl, h⟩))]
theorem rank_small {W : WL} (h : Closed W) : ∀ (k : List UInt8), RightK W k → isTy k = true → 1 ≤ rankK W k ∧ rankK W k ≤ (deepK k + 1) * (most W + 2)
 | [], hk, _ => absurd rfl (right_ne hk)
 | x :: a, hk, ht => by
  have hT : ¬ x :: a = [84] := fun e => by rw [e, isTy_no.2] at ht; cases ht
  have hN : ¬ x :: a = [78] := fun e => by rw [e, isTy_no.1] at ht; cases ht
  by_cases h1 : x = 76
  ·subst h1
   rw [rank_L]
   have h2 := (line_of h.good.sound (classN (76 :: a))).2
   have h3 := line_one h.good.sound (classN (76 :: a))
   rw [deep_no (by decide)]
   omega
  by_cases h2 : x = 91
  ·subst h2
   obtain ⟨h3, h4⟩ := arr_right hk
   obtain ⟨h5, h6⟩ := rank_small h a h3 h4
   rw [rank_A, deep_arr]
   rw [Nat.succ_mul (deepK a + 1)]
   omega
  ·have : rankK W (x :: a) = 1 := by unfold rankK; rw [if_neg hT, if_neg hN, if_neg h1, if_neg h2]
   rw [this, deep_no h2]
   omega
theorem join_right {W : WL} (h : Closed W) {a b : List UInt8} (ha : RightK W a) (hb : RightK W b) :
  RightK W (joinK W a b) ∧ doesL W a (joinK W a b) = true ∧ doesL W b (joinK W a b) = true ∧ (joinK W a b = a ∨ rankK W (joinK W a b) < rankK W a) := by
 have na := right_ne ha
 have nb := right_ne hb
 refine join_cases W na nb (fun j => RightK W j ∧ doesL W a j = true ∧ doesL W b j = true ∧ (j = a ∨ rankK W j < rankK W a)) (fun e => ?_) (fun hne e hr => ?_) (fun hne e hr => ?_) (fun hne hr => ?_) (fun hne hr1 hr2 => ?_)
 ·subst e; exact ⟨ha, does_refl W na, does_refl W na, .inl rfl⟩
 ·subst e
  have h1 := rank_small h b hb (refs_ty hb hr)
  refine ⟨hb, does_null W hr, does_refl W nb, .inr ?_⟩
  rw [rank_N]
  have h2 : deepK b ≤ 3 := by
   obtain ⟨p, t, hpt, hp, h3, hc, _⟩ := right_parts (refs_ty hb hr)
   rw [hpt, deep_parts hp hc]; exact h3
  have h3 : (deepK b + 1) * (most W + 2) ≤ 4 * (most W + 2) := Nat.mul_le_mul_right _ (by omega)
  have := h1.2
  omega
 ·subst e; exact ⟨ha, does_refl W na, does_null W hr, .inl rfl⟩
 ·refine ⟨.inr (.inl rfl), does_top W na, does_top W nb, ?_⟩
  rw [rank_T]
  rcases ha with rfl | rfl | h1
  ·exact .inr (by rw [rank_N]; omega)
  ·exact .inl rfl
  ·exact .inr (by have := (rank_small h a (.inr (.inr h1)) h1.1).1; omega)
 ·obtain ⟨g1, _, g3, g4, g5⟩ := join_refs h a b ha hb hr1 hr2
  exact ⟨g1, g3, g4, g5⟩
theorem does_trans {W : WL} (h : Closed W) : ∀ (a b c : List UInt8), RightK W a → RightK W b → RightK W c → doesL W a b = true → doesL W b c = true → doesL W a c = true
 | [], b, c, ha, _, _, _, _ => absurd rfl (right_ne ha)
 | x :: a, [], c, _, hb, _, _, _ => absurd rfl (right_ne hb)
 | x :: a, y :: b, [], _, _, hc, _, _ => absurd rfl (right_ne hc)
 | x :: a, y :: b, z :: c, ha, hb, hc, h1, h2 => by
  by_cases eT : z :: c = [84]
  ·rw [eT]; exact does_top W (by simp)
  by_cases e1 : x :: a = y :: b
  ·rw [e1]; exact h2
  by_cases e2 : y :: b = z :: c
  ·rw [← e2]; exact h1
  have e3 : ¬ y :: b = [84] := fun e => by
   rw [e] at h2 e2
   rw [does_no eT e2 (by decide) (.inl rfl)] at h2
   cases h2
  by_cases e4 : y :: b = [78]
  ·rw [e4] at h1 e1
   by_cases e5 : x :: a = [78]
   ·rw [e5]; rw [e4] at h2; exact h2
   ·rw [does_no (by decide) e1 e5 (.inr rfl)] at h1; cases h1
  by_cases e5 : x :: a = [78]
  ·rw [e5]
   rw [e5] at h1
   refine does_null W ?_
   cases hr : refs (z :: c) with
   | true => rfl
   | false => rw [does_no eT e2 e4 (.inr hr)] at h2; cases h2
  have hrx : refs (x :: a) = true := by
   cases hr : refs (x :: a) with
   | true => rfl
   | false => rw [does_no e3 e1 e5 (.inl hr)] at h1; cases h1
  have hry : refs (y :: b) = true := by
   cases hr : refs (y :: b) with
   | true => rfl
   | false => rw [does_no e3 e1 e5 (.inr hr)] at h1; cases h1
  have hrz : refs (z :: c) = true := by
   cases hr : refs (z :: c) with
   | true => rfl
   | false => rw [does_no eT e2 e4 (.inr hr)] at h2; cases h2
  by_cases e6 : x :: a = z :: c
  ·rw [e6]; exact does_same W _ _
  rcases refs_head.1 hrx with rfl | rfl
  ·-- a class
   rw [does_cls e3 e1 e5 hry rfl] at h1
   simp only [Bool.and_eq_true, decide_eq_true_eq, List.head?_cons, Option.some.injEq] at h1
   obtain ⟨rfl, h1⟩ := h1
   rw [does_cls eT e2 e4 hrz rfl] at h2
   simp only [Bool.and_eq_true, decide_eq_true_eq, List.head?_cons, Option.some.injEq] at h2
   obtain ⟨rfl, h2⟩ := h2
   rw [does_cls eT e6 e5 hrz rfl, inT_mem.2 (mem_every.2 ((mem_every.1 (inT_mem.1 h1)).trans (mem_every.1 (inT_mem.1 h2))))]
   rfl
  ·rcases refs_head.1 hry with rfl | rfl
   ·rw [does_obj e3 e1 e5 hrx (by decide) rfl, decide_eq_true_eq] at h1
    rw [does_cls eT e2 e4 hrz rfl] at h2
    simp only [Bool.and_eq_true, decide_eq_true_eq, List.head?_cons, Option.some.injEq] at h2
    obtain ⟨rfl, h2⟩ := h2
    have h3 := mem_every.1 (inT_mem.1 h2)
    rw [h1, show classN objT = objB from (thing_cls (n := objB) (by decide)).2] at h3
    have h4 : classN (76 :: c) = objB := every_none (above_none h.good.obj) (mem_every.2 h3)
    have h5 := (ref_thing h hc).2
    rw [h4] at h5
    exact absurd (h1.trans h5.symm) e2
   ·rw [does_arr e3 e1 e5 hrx hry (by decide) (by decide)] at h1
    simp only [Bool.and_eq_true] at h1
    obtain ⟨h3, h4, h5⟩ := h1
    rcases refs_head.1 hrz with rfl | rfl
    ·rw [does_obj eT e2 e4 hry (by decide) rfl, decide_eq_true_eq] at h2
     rw [does_obj eT e6 e5 hrx (by decide) rfl, h2]
     rfl
    ·rw [does_arr eT e2 e4 hry hrz (by decide) (by decide)] at h2
     simp only [Bool.and_eq_true] at h2
     obtain ⟨h6, h7, h8⟩ := h2
     rw [does_arr eT e6 e5 hrx hrz (by decide) (by decide), h3, h7, does_trans h a b c (arr_right ha).1 (arr_right hb).1 (arr_right hc).1 h5 h8]
     rfl
theorem str_noty {t : ByteArray} {l : List UInt8} (ht : isTy t.data.toList = true) (hl : isTy l = false) : (t.toList == l) = false ∧ ¬ t.toList = l := by
 have : ¬ t.toList = l := fun h => by rw [str_list.1 h, hl] at ht; cases ht
 exact ⟨beq_eq_false_iff_ne.2 this, this⟩
theorem doesK_any (W : WL) (b : Nat) (f t : ByteArray) (w : World) (hW : Wd w b W) (hf : RightK W f.data.toList) (ht : isTy t.data.toList = true) :
  Calls Tryz.prog 57 #[.map (some b), .string f, .string t] w fun e w' => e = .returned (.bool (doesL W f.data.toList t.data.toList)) ∧ Below w.heap.size w w' := by
 by_cases hty : isTy f.data.toList = true
 ·exact does_any W b (fun x => hW.good.faces' x) (by have := hW.most; omega) f.size f t w (Nat.le_refl _) hty ht hW.at_
 obtain ⟨g1, g2⟩ := str_noty ht isTy_no.2
 obtain ⟨g3, g4⟩ := str_noty ht isTy_no.1
 have k1 : ([78] == t.toList) = false := beq_eq_false_iff_ne.2 fun h => g4 h.symm
 have k2 : ¬ [78] = t.toList := fun h => g4 h.symm
 have k3 : ([84] == t.toList) = false := beq_eq_false_iff_ne.2 fun h => g2 h.symm
 have k4 : ¬ [84] = t.toList := fun h => g2 h.symm
 rcases hf with hf | hf | hf
 ·have s1 : f.toList = [78] := str_list.2 hf
  have HRF := hid (refs_any f)
  have HRT := hid (refs_any t)
  rw [hf] at HRF ⊢
  rw [show refs [78] = false from rfl] at HRF
  cases hr : refs t.data.toList with
  | true =>
   have HZ := hid (does_null W hr)
   rw [hr] at HRT
   clear hf hr hty ht
   go_enter Tryz.func57, Tryz.ntmps57
   go_wp2_with fail
   refine (HRT.out _).mono ?_
   rintro e w1 ⟨rfl, rfl⟩
   go_wp2
   go_ret
   exact ⟨by rw [HZ.out]; rfl, Below.refl _ _⟩
  | false =>
   obtain ⟨y, c, hT⟩ : ∃ y c, t.data.toList = y :: c := by
    cases h : t.data.toList with
    | nil => rw [h] at ht; exact absurd ht (by decide)
    | cons x a => exact ⟨x, a, rfl⟩
   have HZ : Hid (doesL W [78] t.data.toList = false) := hid (by
    have h84 : ¬ t.data.toList = [84] := fun e => by rw [e, isTy_no.2] at ht; cases ht
    have h78 : ¬ t.data.toList = [78] := fun e => by rw [e, isTy_no.1] at ht; cases ht
    unfold doesL
    rw [if_neg (by rintro (q | q | q); exact h84 q; exact h78 q.symm; rw [hr] at q; cases q.2), if_pos (.inl rfl)])
   rw [hr] at HRT
   clear hf hr hty ht hT
   go_enter Tryz.func57, Tryz.ntmps57
   go_wp2_with fail
   refine (HRT.out _).mono ?_
   rintro e w1 ⟨rfl, rfl⟩
   go_wp2_with fail
   refine (HRF.out _).mono ?_
   rintro e w1 ⟨rfl, rfl⟩
   go_wp2
   go_ret
   exact ⟨by rw [HZ.out]; rfl, Below.refl _ _⟩
 ·have s1 : f.toList = [84] := str_list.2 hf
  have HRF := hid (refs_any f)
  rw [hf] at HRF ⊢
  rw [show refs [84] = false from rfl] at HRF
  have HZ : Hid (doesL W [84] t.data.toList = false) := hid (by
   have h84 : ¬ t.data.toList = [84] := fun e => by rw [e, isTy_no.2] at ht; cases ht
   unfold doesL
   rw [if_neg (by rintro (q | q | q); exact h84 q; exact h84 q.symm; exact absurd q.1 (by decide)), if_pos (.inl rfl)])
  clear hf hty ht
  go_enter Tryz.func57, Tryz.ntmps57
  go_wp2_with fail
  refine (HRF.out _).mono ?_
  rintro e w1 ⟨rfl, rfl⟩
  go_wp2
  go_ret
  exact ⟨by rw [HZ.out]; rfl, Below.refl _ _⟩
 ·exact absurd hf.1 hty
end Go.Proofs.YtloonnfelgokmaaGreatDoor.worlds
