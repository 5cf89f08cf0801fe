/- Frames, what an instruction makes of one, and what a method's places know, in plain words: worlds of plain classes. No condition. -/
import Derived.Test.YtloonnfelgokmaaGreatDoorZKndZ
import Derived.Test.YtloonnfelgokmaaGreatDoorZFlowZ
set_option maxRecDepth 100000
set_option maxHeartbeats 16000000
set_option linter.unusedSimpArgs false
set_option linter.unusedVariables false
namespace Go.Proofs.YtloonnfelgokmaaGreatDoor.worlds
open Go.RowKit lib maps classes errs descs names ins
structure Flat (W : WL) : Prop where
 closed : Closed W
 plain : ∀ n c, getK W n = some c → c.face = false ∧ c.faces = [] ∧ c.fields = [] ∧ ∀ m ∈ c.mets, m.st = true ∧ m.ab = false ∧ m.pr = false ∧ m.hs = []
structure Fr where
 L : List ByteArray
 S : List ByteArray
deriving DecidableEq
def tI : ByteArray := { data := #[73] }
def tJ : ByteArray := { data := #[74] }
def tN : ByteArray := { data := #[78] }
def tT : ByteArray := { data := #[84] }
def tFault : ByteArray := { data := #[76, 70, 97, 117, 108, 116, 59] }
def popS (S : List ByteArray) : Option (ByteArray × List ByteArray) := match S.getLast? with
 | none => none
 | some k => some (k, S.dropLast)
def putS (S : List ByteArray) (k : ByteArray) : Option (List ByteArray) := if S.length < 8 then some (S ++ [k]) else none
def takeS (W : WL) (S : List ByteArray) (k : ByteArray) : Option (List ByteArray) :=
 if kindF W k.data.toList ≠ 0 then none else (popS S).bind fun p => if doesL W p.1.data.toList k.data.toList = true then some p.2 else none
def takesS (W : WL) : List ByteArray → List ByteArray → Option (List ByteArray)
 | [], S => some S
 | k :: r, S => (takeS W S k).bind fun S => takesS W r S
def refS (S : List ByteArray) : Option (ByteArray × List ByteArray) := (popS S).bind fun p => if p.1 = tN ∨ refs p.1.data.toList = true then some p else none
def knownK (W : WL) (k : ByteArray) : Prop := kindF W k.data.toList = 0
instance (W : WL) (k : ByteArray) : Decidable (knownK W k) := by unfold knownK; infer_instance
def arrayS (W : WL) (S : List ByteArray) (t : ByteArray) : Option (List ByteArray) :=
 if ¬ knownK W t then none else (takeS W S tI).bind fun S => (refS S).bind fun p =>
  if p.1 = tN then some p.2 else match p.1.data.toList with
   | 91 :: a => if doesL W a t.data.toList = true ∧ refs a = refs t.data.toList then some p.2 else none
   | _ => none
def otherT (t : ByteArray) : ByteArray := if t = tI then tJ else tI
def findM (W : WL) (n nm ty : ByteArray) : Option (ByteArray × MV) := (lineOf W n).findSome? fun c => ((cAt W c).mets.find? fun m => decide (m.nm = nm ∧ m.ty = ty)).map fun m => (c, m)
def thB (n : ByteArray) : ByteArray := bs (thingB n)
def callS (W : WL) (from_ : ByteArray) (x : I) (S : List ByteArray) : Option (List ByteArray) :=
 if (getK W x.c).isSome = false ∨ (getK W from_).isSome = false then none else match findM W x.c x.n x.t with
  | none => none
  | some _ => if x.op = 24 then none else match methodOf x.t.data.toList with
   | none => none
   | some (ts, g) => (takesS W (ts.map bs).reverse S).bind fun S => if g = [86] then some S else if ¬ knownK W (bs g) then none else putS S (bs g)
def afterF (W : WL) (from_ gives : ByteArray) (x : I) (f : Fr) : Option Fr :=
 let st := fun (o : Option (List ByteArray)) => o.map fun S => ({ f with S := S } : Fr)
 if x.op = 2 then st (putS f.S x.t)
 else if x.op = 3 then st (putS f.S tN)
 else if x.op = 4 then (match f.L[x.a.toNat]? with | none => none | some k => if k = tT then none else st (putS f.S k))
 else if x.op = 5 then ((popS f.S).bind fun p => if x.a.toNat < f.L.length then some ⟨f.L.set x.a.toNat p.1, p.2⟩ else none)
 else if x.op = 6 then st ((popS f.S).map (·.2))
 else if x.op = 7 then st ((popS f.S).bind fun p => (putS p.2 p.1).bind fun S => putS S p.1)
 else if x.op = 8 then st ((popS f.S).bind fun a => (popS a.2).bind fun b => (putS b.2 a.1).bind fun S => putS S b.1)
 else if x.op = 9 then st ((if x.a = 12 then some f.S else if x.a = 9 ∨ x.a = 10 ∨ x.a = 11 then takeS W f.S tI else takeS W f.S x.t).bind fun S => (takeS W S x.t).bind fun S => putS S x.t)
 else if x.op = 10 then st ((takeS W f.S (otherT x.t)).bind fun S => putS S x.t)
 else if x.op = 11 then st ((takesS W [tJ, tJ] f.S).bind fun S => putS S tI)
 else if x.op = 12 then st (takeS W f.S tI)
 else if x.op = 13 then st ((refS f.S).map (·.2))
 else if x.op = 15 then (if knownK W (thB x.c) then st (putS f.S (thB x.c)) else none)
 else if x.op = 16 ∨ x.op = 17 then none
 else if x.op = 18 then (if knownK W x.t then st ((takeS W f.S tI).bind fun S => putS S ({ data := #[91] } ++ x.t)) else none)
 else if x.op = 19 then st ((refS f.S).bind fun p => if p.1 = tN ∨ p.1.data.toList.head? = some 91 then putS p.2 tI else none)
 else if x.op = 20 then st ((arrayS W f.S x.t).bind fun S => putS S x.t)
 else if x.op = 21 then (if knownK W x.t then st ((takeS W f.S x.t).bind fun S => arrayS W S x.t) else none)
 else if x.op = 22 then (if knownK W x.t then st ((refS f.S).bind fun p => putS p.2 x.t) else none)
 else if x.op = 23 then (if knownK W x.t then st ((refS f.S).bind fun p => putS p.2 tI) else none)
 else if x.op = 24 ∨ x.op = 25 then st (callS W from_ x f.S)
 else if x.op = 26 then (if gives = { data := #[86] } then some f else none)
 else if x.op = 27 then (if gives = { data := #[86] } then none else st (takeS W f.S gives))
 else if x.op = 28 then st (takeS W f.S tFault)
 else some f
def bothF (W : WL) (f g : Fr) : Option Fr :=
 if f.L.length ≠ g.L.length ∨ f.S.length ≠ g.S.length then none
 else some ⟨(f.L.zip g.L).map fun p => bs (joinK W p.1.data.toList p.2.data.toList), (f.S.zip g.S).map fun p => bs (joinK W p.1.data.toList p.2.data.toList)⟩
abbrev FM := List (Int × Fr)
def meetF (W : WL) (p : FM × List Int) (at_ : Int) (f : Fr) : Option (FM × List Int) := match getK p.1 at_ with
 | none => some (setK p.1 at_ f, p.2 ++ [at_])
 | some was => match bothF W was f with
  | none => none
  | some g => if g = was then some p else some (setK p.1 at_ g, p.2 ++ [at_])
def meetsF (W : WL) (f : Fr) : List Int → FM × List Int → Option (FM × List Int)
 | [], p => some p
 | a :: r, p => (meetF W p a f).bind fun p => meetsF W f r p
theorem pop_some {S T : List ByteArray} {k : ByteArray} (h : popS S = some (k, T)) : S = T ++ [k] := by
 unfold popS at h
 cases hl : S.getLast? with
 | none => rw [hl] at h; cases h
 | some j =>
  rw [hl] at h
  simp only [Option.some.injEq, Prod.mk.injEq] at h
  obtain ⟨rfl, rfl⟩ := h
  have hne : S ≠ [] := fun e => by rw [e] at hl; cases hl
  rw [List.getLast?_eq_some_getLast hne] at hl
  rw [← Option.some.inj hl, List.dropLast_concat_getLast]
theorem pop_snoc (T : List ByteArray) (k : ByteArray) : popS (T ++ [k]) = some (k, T) := by
 unfold popS
 rw [List.getLast?_concat]
 simp
theorem put_some {S T : List ByteArray} {k : ByteArray} (h : putS S k = some T) : S.length < 8 ∧ T = S ++ [k] := by
 unfold putS at h
 split at h
 ·exact ⟨by assumption, (Option.some.inj h).symm⟩
 ·cases h
theorem take_some {W : WL} {S T : List ByteArray} {k : ByteArray} (h : takeS W S k = some T) : ∃ j, S = T ++ [j] ∧ doesL W j.data.toList k.data.toList = true ∧ kindF W k.data.toList = 0 := by
 unfold takeS at h
 split at h
 ·cases h
 rename_i hk
 obtain ⟨⟨j, U⟩, hp, h2⟩ := Option.bind_eq_some_iff.1 h
 simp only at h2
 split at h2
 ·rename_i hd
  obtain rfl := Option.some.inj h2
  exact ⟨j, pop_some hp, hd, by simpa using hk⟩
 ·cases h2
theorem ref_some {S T : List ByteArray} {k : ByteArray} (h : refS S = some (k, T)) : S = T ++ [k] ∧ (k = tN ∨ refs k.data.toList = true) := by
 unfold refS at h
 obtain ⟨p, hp, h2⟩ := Option.bind_eq_some_iff.1 h
 split at h2
 ·rename_i hd
  obtain rfl := Option.some.inj h2
  exact ⟨pop_some hp, hd⟩
 ·cases h2
theorem array_some {W : WL} {S T : List ByteArray} {t : ByteArray} (h : arrayS W S t = some T) : knownK W t ∧ ∃ i k, S = T ++ [k] ++ [i] ∧ doesL W i.data.toList [73] = true ∧ (k = tN ∨ ∃ a, k.data.toList = 91 :: a ∧ doesL W a t.data.toList = true ∧ refs a = refs t.data.toList) := by
 unfold arrayS at h
 split at h
 ·cases h
 rename_i hk
 obtain ⟨U, hU, h2⟩ := Option.bind_eq_some_iff.1 h
 obtain ⟨⟨k, V⟩, hV, h3⟩ := Option.bind_eq_some_iff.1 h2
 obtain ⟨i, rfl, hi, _⟩ := take_some hU
 obtain ⟨rfl, hr⟩ := ref_some hV
 simp only at h3
 refine ⟨by simpa using hk, i, k, ?_, hi, ?_⟩
 ·split at h3
  ·rw [Option.some.inj h3]
  ·split at h3
   ·split at h3
    ·rw [Option.some.inj h3]
    ·cases h3
   ·cases h3
 ·split at h3
  ·exact .inl (by assumption)
  ·split at h3
   ·rename_i a ha
    split at h3
    ·rename_i hc
     exact .inr ⟨a, ha, hc⟩
    ·cases h3
   ·cases h3
theorem takes_some {W : WL} : ∀ {ks S T : List ByteArray}, takesS W ks S = some T → ∃ U : List ByteArray, S = T ++ U.reverse ∧ U.length = ks.length ∧ ∀ (i : Nat) (j k : ByteArray), U[i]? = some j → ks[i]? = some k → doesL W j.data.toList k.data.toList = true ∧ kindF W k.data.toList = 0
 | [], S, T, h => ⟨[], by unfold takesS at h; simpa using h, rfl, fun i j k h => by simp at h⟩
 | k0 :: r, S, T, h => by
  unfold takesS at h
  obtain ⟨V, hV, h2⟩ := Option.bind_eq_some_iff.1 h
  obtain ⟨j0, rfl, hd, hk⟩ := take_some hV
  obtain ⟨U, rfl, hl, hU⟩ := takes_some h2
  refine ⟨j0 :: U, by simp, by simp [hl], fun i j k hi hj => ?_⟩
  cases i with
  | zero =>
   simp only [List.getElem?_cons_zero, Option.some.injEq] at hi hj
   subst hi hj
   exact ⟨hd, hk⟩
  | succ i =>
   simp only [List.getElem?_cons_succ] at hi hj
   exact hU i j k hi hj
structure RightS (W : WL) (S : List ByteArray) : Prop where
 right : ∀ k ∈ S, RightK W k.data.toList
 len : S.length ≤ 8
theorem RightS.cut {W : WL} {T U : List ByteArray} (h : RightS W (T ++ U)) : RightS W T := ⟨fun k hk => h.right k (List.mem_append_left _ hk), by have := h.len; rw [List.length_append] at this; omega⟩
theorem RightS.last {W : WL} {T : List ByteArray} {k : ByteArray} (h : RightS W (T ++ [k])) : RightK W k.data.toList := h.right k (List.mem_append_right _ (List.mem_singleton_self k))
theorem RightS.put {W : WL} {S T : List ByteArray} {k : ByteArray} (h : RightS W S) (hk : RightK W k.data.toList) (hp : putS S k = some T) : RightS W T := by
 obtain ⟨h1, rfl⟩ := put_some hp
 refine ⟨fun j hj => ?_, by rw [List.length_append, List.length_singleton]; omega⟩
 rcases List.mem_append.1 hj with hj | hj
 ·exact h.right j hj
 ·rw [List.mem_singleton.1 hj]; exact hk
theorem RightS.pop {W : WL} {S T : List ByteArray} {k : ByteArray} (h : RightS W S) (hp : popS S = some (k, T)) : RightS W T ∧ RightK W k.data.toList := by
 have := pop_some hp
 subst this
 exact ⟨h.cut, h.last⟩
theorem RightS.take {W : WL} {S T : List ByteArray} {k : ByteArray} (h : RightS W S) (hp : takeS W S k = some T) : RightS W T := by
 obtain ⟨j, rfl, _⟩ := take_some hp
 exact h.cut
theorem RightS.takes {W : WL} {S T ks : List ByteArray} (h : RightS W S) (hp : takesS W ks S = some T) : RightS W T := by
 obtain ⟨j, rfl, _⟩ := takes_some hp
 exact h.cut
theorem RightS.ref {W : WL} {S T : List ByteArray} {k : ByteArray} (h : RightS W S) (hp : refS S = some (k, T)) : RightS W T := by
 obtain ⟨rfl, _⟩ := ref_some hp
 exact h.cut
theorem RightS.array {W : WL} {S T : List ByteArray} {t : ByteArray} (h : RightS W S) (hp : arrayS W S t = some T) : RightS W T := by
 obtain ⟨_, i, k, rfl, _⟩ := array_some hp
 exact h.cut.cut
structure RightF (W : WL) (f : Fr) : Prop where
 L : ∀ k ∈ f.L, RightK W k.data.toList
 S : RightS W f.S
theorem right_N (W : WL) : RightK W tN.data.toList := .inl rfl
theorem right_I (W : WL) : RightK W tI.data.toList := .inr (.inr ⟨by decide +kernel, fun h => absurd (show classB [73] = [] by decide +kernel) h⟩)
theorem right_J (W : WL) : RightK W tJ.data.toList := .inr (.inr ⟨by decide +kernel, fun h => absurd (show classB [74] = [] by decide +kernel) h⟩)
theorem right_wd (W : WL) {t : ByteArray} (h : isWd t.data.toList = true) : RightK W t.data.toList := by
 simp only [isWd, decide_eq_true_eq] at h
 rcases h with h | h
 ·have := right_I W; rw [h]; exact this
 ·have := right_J W; rw [h]; exact this
theorem known_right {W : WL} {t : ByteArray} (h : knownK W t) : RightK W t.data.toList := kind_right.1 h
theorem bs_data (l : List UInt8) : (bs l).data.toList = l := by simp [bs]
theorem cat_data (t : ByteArray) : (({ data := #[91] } : ByteArray) ++ t).data.toList = 91 :: t.data.toList := by simp
theorem typed_wd {x : I} (h : insFault x = 0) (ho : ins.isIn x.op [2, 9, 10] = true) : isWd x.t.data.toList = true := by
 unfold insFault at h
 split at h
 ·cases h
 split at h
 ·cases h
 split at h
 ·cases h
 split at h
 ·cases h
 rename_i h4
 have : typedOk x = true := by cases hq : typedOk x with | true => rfl | false => exact absurd (.inl hq) h4
 unfold typedOk at this
 rw [if_pos ho] at this
 exact this
theorem typed_arr {x : I} (h : insFault x = 0) (ho : ins.isIn x.op [18, 20, 21] = true) : isTy x.t.data.toList = true ∧ isTy (91 :: x.t.data.toList) = true := by
 unfold insFault at h
 split at h
 ·cases h
 split at h
 ·cases h
 split at h
 ·cases h
 split at h
 ·cases h
 rename_i h4
 have : typedOk x = true := by cases hq : typedOk x with | true => rfl | false => exact absurd (.inl hq) h4
 unfold typedOk at this
 rw [if_neg, if_pos ho] at this
 ·simpa using this
 ·intro h5
  simp only [ins.isIn, List.contains_eq_mem, decide_eq_true_eq, List.mem_cons, List.not_mem_nil, or_false] at h5 ho
  omega
theorem ranged_loc {x : I} (h : insFault x = 0) (ho : x.op = 4 ∨ x.op = 5) : 0 ≤ x.a ∧ x.a < 8 := by
 unfold insFault at h
 split at h
 ·cases h
 split at h
 ·cases h
 split at h
 ·cases h
 rename_i h3
 have : rangedOk x = true := by simpa using h3
 unfold rangedOk at this
 rw [if_neg (by omega), if_pos ho, decide_eq_true_eq] at this
 exact this
theorem after_right {W : WL} {from_ gives : ByteArray} {x : I} {f g : Fr} (hx : insFault x = 0) (hf : RightF W f) (h : afterF W from_ gives x f = some g) : RightF W g ∧ g.L.length = f.L.length := by
 have st : ∀ {o : Option (List ByteArray)}, (o.map fun S => ({ f with S := S } : Fr)) = some g → (∀ S, o = some S → RightS W S) → RightF W g ∧ g.L.length = f.L.length := fun {o} h1 h2 => by
  obtain ⟨S, hS, rfl⟩ := Option.map_eq_some_iff.1 h1
  exact ⟨⟨hf.L, h2 S hS⟩, rfl⟩
 unfold afterF at h
 simp only at h
 by_cases o2 : x.op = 2
 ·rw [if_pos o2] at h
  exact st h fun S hS => hf.S.put (right_wd W (typed_wd hx (by rw [o2]; rfl))) hS
 rw [if_neg o2] at h
 by_cases o3 : x.op = 3
 ·rw [if_pos o3] at h
  exact st h fun S hS => hf.S.put (right_N W) hS
 rw [if_neg o3] at h
 by_cases o4 : x.op = 4
 ·rw [if_pos o4] at h
  cases hk : f.L[x.a.toNat]? with
  | none => rw [hk] at h; cases h
  | some k =>
   rw [hk] at h
   simp only at h
   split at h
   ·cases h
   ·exact st h fun S hS => hf.S.put (hf.L k (List.mem_of_getElem? hk)) hS
 rw [if_neg o4] at h
 by_cases o5 : x.op = 5
 ·rw [if_pos o5] at h
  obtain ⟨⟨k, S⟩, hp, h2⟩ := Option.bind_eq_some_iff.1 h
  obtain ⟨h3, h4⟩ := hf.S.pop hp
  simp only at h2
  split at h2
  ·obtain rfl := Option.some.inj h2
   refine ⟨⟨fun j hj => ?_, h3⟩, by simp⟩
   rcases List.mem_or_eq_of_mem_set hj with hj | rfl
   ·exact hf.L j hj
   ·exact h4
  ·cases h2
 rw [if_neg o5] at h
 by_cases o6 : x.op = 6
 ·rw [if_pos o6] at h
  refine st h fun S hS => ?_
  obtain ⟨⟨k, T⟩, hp, rfl⟩ := Option.map_eq_some_iff.1 hS
  exact (hf.S.pop hp).1
 rw [if_neg o6] at h
 by_cases o7 : x.op = 7
 ·rw [if_pos o7] at h
  refine st h fun S hS => ?_
  obtain ⟨⟨k, T⟩, hp, h2⟩ := Option.bind_eq_some_iff.1 hS
  obtain ⟨U, hU, h3⟩ := Option.bind_eq_some_iff.1 h2
  obtain ⟨g1, g2⟩ := hf.S.pop hp
  exact (g1.put g2 hU).put g2 h3
 rw [if_neg o7] at h
 by_cases o8 : x.op = 8
 ·rw [if_pos o8] at h
  refine st h fun S hS => ?_
  obtain ⟨⟨a, T⟩, hp, h2⟩ := Option.bind_eq_some_iff.1 hS
  obtain ⟨⟨b, U⟩, hq, h3⟩ := Option.bind_eq_some_iff.1 h2
  obtain ⟨V, hV, h4⟩ := Option.bind_eq_some_iff.1 h3
  obtain ⟨g1, g2⟩ := hf.S.pop hp
  obtain ⟨g3, g4⟩ := g1.pop hq
  exact (g3.put g2 hV).put g4 h4
 rw [if_neg o8] at h
 by_cases o9 : x.op = 9
 ·rw [if_pos o9] at h
  refine st h fun S hS => ?_
  obtain ⟨T, hT, h2⟩ := Option.bind_eq_some_iff.1 hS
  obtain ⟨U, hU, h3⟩ := Option.bind_eq_some_iff.1 h2
  have hT2 : RightS W T := by
   split at hT
   ·rw [← Option.some.inj hT]; exact hf.S
   ·split at hT
    ·exact hf.S.take hT
    ·exact hf.S.take hT
  exact (hT2.take hU).put (right_wd W (typed_wd hx (by rw [o9]; rfl))) h3
 rw [if_neg o9] at h
 by_cases o10 : x.op = 10
 ·rw [if_pos o10] at h
  refine st h fun S hS => ?_
  obtain ⟨T, hT, h2⟩ := Option.bind_eq_some_iff.1 hS
  exact (hf.S.take hT).put (right_wd W (typed_wd hx (by rw [o10]; rfl))) h2
 rw [if_neg o10] at h
 by_cases o11 : x.op = 11
 ·rw [if_pos o11] at h
  refine st h fun S hS => ?_
  obtain ⟨T, hT, h2⟩ := Option.bind_eq_some_iff.1 hS
  exact (hf.S.takes hT).put (right_I W) h2
 rw [if_neg o11] at h
 by_cases o12 : x.op = 12
 ·rw [if_pos o12] at h
  exact st h fun S hS => hf.S.take hS
 rw [if_neg o12] at h
 by_cases o13 : x.op = 13
 ·rw [if_pos o13] at h
  refine st h fun S hS => ?_
  obtain ⟨⟨k, T⟩, hp, rfl⟩ := Option.map_eq_some_iff.1 hS
  exact hf.S.ref hp
 rw [if_neg o13] at h
 by_cases o15 : x.op = 15
 ·rw [if_pos o15] at h
  split at h
  ·rename_i hk
   exact st h fun S hS => hf.S.put (known_right hk) hS
  ·cases h
 rw [if_neg o15] at h
 by_cases o16 : x.op = 16 ∨ x.op = 17
 ·rw [if_pos o16] at h; cases h
 rw [if_neg o16] at h
 by_cases o18 : x.op = 18
 ·rw [if_pos o18] at h
  split at h
  ·rename_i hk
   refine st h fun S hS => ?_
   obtain ⟨T, hT, h2⟩ := Option.bind_eq_some_iff.1 hS
   refine (hf.S.take hT).put ?_ h2
   rw [cat_data]
   exact arr_of (known_right hk) (a := []) (typed_arr hx (by rw [o18]; rfl)).2
  ·cases h
 rw [if_neg o18] at h
 by_cases o19 : x.op = 19
 ·rw [if_pos o19] at h
  refine st h fun S hS => ?_
  obtain ⟨⟨k, T⟩, hT, h2⟩ := Option.bind_eq_some_iff.1 hS
  simp only at h2
  split at h2
  ·exact (hf.S.ref hT).put (right_I W) h2
  ·cases h2
 rw [if_neg o19] at h
 by_cases o20 : x.op = 20
 ·rw [if_pos o20] at h
  refine st h fun S hS => ?_
  obtain ⟨T, hT, h2⟩ := Option.bind_eq_some_iff.1 hS
  exact (hf.S.array hT).put (known_right (array_some hT).1) h2
 rw [if_neg o20] at h
 by_cases o21 : x.op = 21
 ·rw [if_pos o21] at h
  split at h
  ·refine st h fun S hS => ?_
   obtain ⟨T, hT, h2⟩ := Option.bind_eq_some_iff.1 hS
   exact (hf.S.take hT).array h2
  ·cases h
 rw [if_neg o21] at h
 by_cases o22 : x.op = 22
 ·rw [if_pos o22] at h
  split at h
  ·rename_i hk
   refine st h fun S hS => ?_
   obtain ⟨⟨k, T⟩, hT, h2⟩ := Option.bind_eq_some_iff.1 hS
   exact (hf.S.ref hT).put (known_right hk) h2
  ·cases h
 rw [if_neg o22] at h
 by_cases o23 : x.op = 23
 ·rw [if_pos o23] at h
  split at h
  ·refine st h fun S hS => ?_
   obtain ⟨⟨k, T⟩, hT, h2⟩ := Option.bind_eq_some_iff.1 hS
   exact (hf.S.ref hT).put (right_I W) h2
  ·cases h
 rw [if_neg o23] at h
 by_cases o24 : x.op = 24 ∨ x.op = 25
 ·rw [if_pos o24] at h
  refine st h fun S hS => ?_
  unfold callS at hS
  split at hS
  ·cases hS
  split at hS
  ·cases hS
  split at hS
  ·cases hS
  split at hS
  ·cases hS
  obtain ⟨T, hT, h2⟩ := Option.bind_eq_some_iff.1 hS
  split at h2
  ·rw [← Option.some.inj h2]; exact hf.S.takes hT
  ·split at h2
   ·cases h2
   ·rename_i hk
    exact (hf.S.takes hT).put (known_right (Classical.not_not.1 hk)) h2
 rw [if_neg o24] at h
 by_cases o26 : x.op = 26
 ·rw [if_pos o26] at h
  split at h
  ·rw [← Option.some.inj h]; exact ⟨hf, rfl⟩
  ·cases h
 rw [if_neg o26] at h
 by_cases o27 : x.op = 27
 ·rw [if_pos o27] at h
  split at h
  ·cases h
  ·exact st h fun S hS => hf.S.take hS
 rw [if_neg o27] at h
 by_cases o28 : x.op = 28
 ·rw [if_pos o28] at h
  exact st h fun S hS => hf.S.take hS
 rw [if_neg o28] at h
 rw [← Option.some.inj h]
 exact ⟨hf, rfl⟩
open Go.RowKit lib maps classes errs descs names ins flows
def FitsL (W : WL) : List ByteArray → List ByteArray → Prop
 | [], [] => True
 | a :: l, b :: m => doesL W a.data.toList b.data.toList = true ∧ FitsL W l m
 | _, _ => False
theorem fits_len {W : WL} : ∀ {l m : List ByteArray}, FitsL W l m → l.length = m.length
 | [], [], _ => rfl
 | a :: l, b :: m, h => by rw [List.length_cons, List.length_cons, fits_len h.2]
theorem fits_refl {W : WL} : ∀ {l : List ByteArray}, (∀ k ∈ l, RightK W k.data.toList) → FitsL W l l
 | [], _ => trivial
 | a :: l, h => ⟨does_refl W (right_ne (h a (List.mem_cons_self ..))), fits_refl fun k hk => h k (List.mem_cons_of_mem _ hk)⟩
theorem fits_trans {W : WL} (hc : Closed W) : ∀ {l m n : List ByteArray}, (∀ k ∈ l, RightK W k.data.toList) → (∀ k ∈ m, RightK W k.data.toList) → (∀ k ∈ n, RightK W k.data.toList) → FitsL W l m → FitsL W m n → FitsL W l n
 | [], [], [], _, _, _, _, _ => trivial
 | a :: l, b :: m, c :: n, h1, h2, h3, g1, g2 =>
  ⟨does_trans hc _ _ _ (h1 a (List.mem_cons_self ..)) (h2 b (List.mem_cons_self ..)) (h3 c (List.mem_cons_self ..)) g1.1 g2.1,
   fits_trans hc (fun k hk => h1 k (List.mem_cons_of_mem _ hk)) (fun k hk => h2 k (List.mem_cons_of_mem _ hk)) (fun k hk => h3 k (List.mem_cons_of_mem _ hk)) g1.2 g2.2⟩
def joinAll (W : WL) (l m : List ByteArray) : List ByteArray := (l.zip m).map fun p => bs (joinK W p.1.data.toList p.2.data.toList)
def sumK (W : WL) (l : List ByteArray) : Nat := (l.map fun k => rankK W k.data.toList).sum
theorem join_all {W : WL} (hc : Closed W) : ∀ {l m : List ByteArray}, l.length = m.length → (∀ k ∈ l, RightK W k.data.toList) → (∀ k ∈ m, RightK W k.data.toList) →
  (∀ k ∈ joinAll W l m, RightK W k.data.toList) ∧ FitsL W l (joinAll W l m) ∧ FitsL W m (joinAll W l m) ∧ (joinAll W l m = l ∨ sumK W (joinAll W l m) < sumK W l)
 | [], [], _, _, _ => ⟨fun _ h => absurd h List.not_mem_nil, trivial, trivial, .inl rfl⟩
 | [], _ :: _, h, _, _ => by simp at h
 | _ :: _, [], h, _, _ => by simp at h
 | a :: l, b :: m, h, h1, h2 => by
  obtain ⟨g1, g2, g3, g4⟩ := join_all (l := l) (m := m) hc (by simpa using h) (fun k hk => h1 k (List.mem_cons_of_mem _ hk)) (fun k hk => h2 k (List.mem_cons_of_mem _ hk))
  obtain ⟨f1, f2, f3, f4⟩ := join_right hc (h1 a (List.mem_cons_self ..)) (h2 b (List.mem_cons_self ..))
  have e : joinAll W (a :: l) (b :: m) = bs (joinK W a.data.toList b.data.toList) :: joinAll W l m := rfl
  rw [e]
  refine ⟨fun k hk => ?_, ⟨by rw [bs_data]; exact f2, g2⟩, ⟨by rw [bs_data]; exact f3, g3⟩, ?_⟩
  ·rcases List.mem_cons.1 hk with rfl | hk
   ·rw [bs_data]; exact f1
   ·exact g1 k hk
  ·have es : ∀ (x : ByteArray) (n : List ByteArray), sumK W (x :: n) = rankK W x.data.toList + sumK W n := fun x n => by unfold sumK; rw [List.map_cons, List.sum_cons]
   rw [es, es, bs_data]
   rcases f4 with f4 | f4
   ·rcases g4 with g4 | g4
    ·exact .inl (by rw [f4, g4, bs_list])
    ·exact .inr (by rw [f4]; omega)
   ·rcases g4 with g4 | g4
    ·exact .inr (by rw [g4]; omega)
    ·exact .inr (by omega)
theorem rank_max {W : WL} (hc : Closed W) {k : List UInt8} (h : RightK W k) : rankK W k ≤ 5 * (most W + 2) := by
 rcases h with rfl | rfl | h
 ·rw [rank_N]; exact Nat.le_refl _
 ·rw [rank_T]; exact Nat.zero_le _
 ·have h1 := (rank_small hc k (.inr (.inr h)) h.1).2
  have h2 : deepK k ≤ 3 := by
   obtain ⟨p, t, hpt, hp, h3, hcr, _⟩ := right_parts h.1
   rw [hpt, deep_parts hp hcr]; exact h3
  have h3 : (deepK k + 1) * (most W + 2) ≤ 4 * (most W + 2) := Nat.mul_le_mul_right _ (by omega)
  omega
theorem sum_max {W : WL} (hc : Closed W) : ∀ {l : List ByteArray}, (∀ k ∈ l, RightK W k.data.toList) → sumK W l ≤ l.length * (5 * (most W + 2))
 | [], _ => by simp [sumK]
 | a :: l, h => by
  have h1 := rank_max hc (h a (List.mem_cons_self ..))
  have h2 := sum_max hc (l := l) fun k hk => h k (List.mem_cons_of_mem _ hk)
  unfold sumK at h2 ⊢
  rw [List.map_cons, List.sum_cons, List.length_cons, Nat.succ_mul]
  omega
structure FitsF (W : WL) (f g : Fr) : Prop where
 L : FitsL W f.L g.L
 S : FitsL W f.S g.S
def rankF (W : WL) (f : Fr) : Nat := sumK W f.L + sumK W f.S
theorem fitsF_refl {W : WL} {f : Fr} (h : RightF W f) : FitsF W f f := ⟨fits_refl h.L, fits_refl h.S.right⟩
theorem fitsF_trans {W : WL} (hc : Closed W) {f g k : Fr} (h1 : RightF W f) (h2 : RightF W g) (h3 : RightF W k) (a : FitsF W f g) (b : FitsF W g k) : FitsF W f k :=
 ⟨fits_trans hc h1.L h2.L h3.L a.L b.L, fits_trans hc h1.S.right h2.S.right h3.S.right a.S b.S⟩
theorem both_some {W : WL} (hc : Closed W) {f g k : Fr} (h1 : RightF W f) (h2 : RightF W g) (h : bothF W f g = some k) :
  RightF W k ∧ FitsF W f k ∧ FitsF W g k ∧ (k = f ∨ rankF W k < rankF W f) := by
 unfold bothF at h
 split at h
 ·cases h
 rename_i hl
 obtain rfl := Option.some.inj h
 obtain ⟨a1, a2, a3, a4⟩ := join_all hc (l := f.L) (m := g.L) (by omega) h1.L h2.L
 obtain ⟨b1, b2, b3, b4⟩ := join_all hc (l := f.S) (m := g.S) (by omega) h1.S.right h2.S.right
 refine ⟨⟨a1, ⟨b1, by have := fits_len b2; have := h1.S.len; show (joinAll W f.S g.S).length ≤ 8; omega⟩⟩, ⟨a2, b2⟩, ⟨a3, b3⟩, ?_⟩
 show (⟨joinAll W f.L g.L, joinAll W f.S g.S⟩ : Fr) = f ∨ sumK W (joinAll W f.L g.L) + sumK W (joinAll W f.S g.S) < sumK W f.L + sumK W f.S
 rcases a4 with a4 | a4
 ·rcases b4 with b4 | b4
  ·exact .inl (by rw [a4, b4])
  ·exact .inr (by rw [a4]; omega)
 ·rcases b4 with b4 | b4
  ·exact .inr (by rw [b4]; omega)
  ·exact .inr (by omega)
structure RightM (W : WL) (n q : Nat) (F : FM) : Prop where
 right : ∀ (k : Int) (f : Fr), getK F k = some f → RightF W f ∧ f.L.length = q
 keys : ∀ (k : Int) (f : Fr), getK F k = some f → 0 ≤ k ∧ k < (n : Int)
def topR (W : WL) (q : Nat) : Nat := (q + 8) * (5 * (most W + 2)) + 1
def potAt (W : WL) (q : Nat) (F : FM) (i : Nat) : Nat := match getK F (i : Int) with
 | none => topR W q
 | some f => rankF W f
def pot (W : WL) (n q : Nat) (F : FM) : Nat := ((List.range n).map (potAt W q F)).sum
theorem rankF_top {W : WL} (hc : Closed W) {f : Fr} (h : RightF W f) : rankF W f < topR W f.L.length := by
 have h1 := sum_max hc h.L
 have h2 := sum_max hc h.S.right
 have h3 : f.S.length * (5 * (most W + 2)) ≤ 8 * (5 * (most W + 2)) := Nat.mul_le_mul_right _ h.S.len
 unfold rankF topR
 rw [Nat.add_mul]
 omega
theorem sum_less {f g : Nat → Nat} : ∀ {n j : Nat}, j < n → (∀ i, i ≠ j → g i = f i) → g j < f j → ((List.range n).map g).sum < ((List.range n).map f).sum
 | 0, j, h, _, _ => absurd h (Nat.not_lt_zero _)
 | n + 1, j, h, he, hl => by
  rw [List.range_succ, List.map_append, List.map_append, List.sum_append, List.sum_append]
  by_cases e : j = n
  ·subst e
   have : (List.range j).map g = (List.range j).map f := List.map_congr_left fun i hi => he i (by have := List.mem_range.1 hi; omega)
   rw [this]
   simp only [List.map_cons, List.map_nil, List.sum_cons, List.sum_nil]
   omega
  ·have := sum_less (n := n) (by omega) he hl
   simp only [List.map_cons, List.map_nil, List.sum_cons, List.sum_nil]
   rw [he n (fun h => e h.symm)]
   omega
def UpM (W : WL) (F G : FM) : Prop := ∀ (k : Int) (f : Fr), getK F k = some f → ∃ g, getK G k = some g ∧ FitsF W f g
structure Met (W : WL) (n q : Nat) (p p' : FM × List Int) : Prop where
 right : RightM W n q p'.1
 up : UpM W p.1 p'.1
 todo : ∀ a ∈ p.2, a ∈ p'.2
 new_ : ∀ k, getK p'.1 k ≠ getK p.1 k → k ∈ p'.2
 keys : ∀ a ∈ p'.2, a ∈ p.2 ∨ (getK p'.1 a).isSome = true
 less : 2 * pot W n q p'.1 + p'.2.length ≤ 2 * pot W n q p.1 + p.2.length
theorem met_refl {W : WL} {n q : Nat} {p : FM × List Int} (h : RightM W n q p.1) : Met W n q p p :=
 ⟨h, fun k f hk => ⟨f, hk, fitsF_refl (h.right k f hk).1⟩, fun _ h => h, fun k h => absurd rfl h, fun _ h => .inl h, Nat.le_refl _⟩
theorem Met.trans {W : WL} (hc : Closed W) {n q : Nat} {p p1 p2 : FM × List Int} (h0 : RightM W n q p.1) (h : Met W n q p p1) (k : Met W n q p1 p2) : Met W n q p p2 := by
 refine ⟨k.right, fun a f ha => ?_, fun a ha => k.todo a (h.todo a ha), fun a ha => ?_, fun a ha => ?_, Nat.le_trans k.less h.less⟩
 ·obtain ⟨g, hg, h1⟩ := h.up a f ha
  obtain ⟨g2, hg2, h2⟩ := k.up a g hg
  exact ⟨g2, hg2, fitsF_trans hc (h0.right a f ha).1 (h.right.right a g hg).1 (k.right.right a g2 hg2).1 h1 h2⟩
 ·by_cases e : getK p2.1 a = getK p1.1 a
  ·exact k.todo a (h.new_ a (by rw [← e]; exact ha))
  ·exact k.new_ a e
 ·rcases k.keys a ha with h1 | h1
  ·rcases h.keys a h1 with h2 | h2
   ·exact .inl h2
   ·obtain ⟨f, hf⟩ := Option.isSome_iff_exists.1 h2
    obtain ⟨g, hg, _⟩ := k.up a f hf
    exact .inr (by rw [hg]; rfl)
  ·exact .inr h1
theorem setK_get {α : Type} (l : List (Int × α)) (k j : Int) (v : α) : getK (setK l k v) j = if j = k then some v else getK l j := by rw [getK_set]
theorem met_set {W : WL} (hc : Closed W) {n q : Nat} {p : FM × List Int} {at_ : Int} {f : Fr} (h : RightM W n q p.1) (h0 : 0 ≤ at_) (hn : at_ < (n : Int)) (hf : RightF W f) (hq : f.L.length = q)
  (hw : ∀ was, getK p.1 at_ = some was → FitsF W was f ∧ rankF W f < rankF W was) : Met W n q p (setK p.1 at_ f, p.2 ++ [at_]) := by
 obtain ⟨j, rfl⟩ : ∃ j : Nat, at_ = (j : Int) := ⟨at_.toNat, by omega⟩
 have hget : ∀ k : Int, getK (setK p.1 (j : Int) f) k = if k = (j : Int) then some f else getK p.1 k := fun k => setK_get _ _ _ _
 refine ⟨⟨fun k g hg => ?_, fun k g hg => ?_⟩, fun k g hg => ?_, fun a ha => List.mem_append_left _ ha, fun k hk => ?_, fun a ha => ?_, ?_⟩
 ·simp only [hget] at hg
  split at hg
  ·rw [← Option.some.inj hg]; exact ⟨hf, hq⟩
  ·exact h.right k g hg
 ·simp only [hget] at hg
  split at hg
  ·rename_i e; subst e; exact ⟨h0, hn⟩
  ·exact h.keys k g hg
 ·simp only [hget]
  by_cases e : k = (j : Int)
  ·subst e
   exact ⟨f, if_pos rfl, (hw g hg).1⟩
  ·exact ⟨g, by rw [if_neg e]; exact hg, fitsF_refl (h.right k g hg).1⟩
 ·simp only [hget] at hk
  by_cases e : k = (j : Int)
  ·subst e; exact List.mem_append_right _ (List.mem_singleton_self _)
  ·rw [if_neg e] at hk; exact absurd rfl hk
 ·rcases List.mem_append.1 ha with ha | ha
  ·exact .inl ha
  ·rw [List.mem_singleton.1 ha]
   refine .inr ?_
   show (getK (setK p.1 (j : Int) f) (j : Int)).isSome = true
   rw [hget, if_pos rfl]; rfl
 ·have hlt : pot W n q (setK p.1 (j : Int) f) < pot W n q p.1 := by
   refine sum_less (j := j) (by omega) (fun i hi => ?_) ?_
   ·unfold potAt
    rw [hget, if_neg (by omega)]
   ·unfold potAt
    rw [hget, if_pos rfl]
    cases hg : getK p.1 (j : Int) with
    | none => have := rankF_top hc hf; rw [hq] at this; exact this
    | some was => exact (hw was hg).2
  simp only [List.length_append, List.length_singleton]
  omega
theorem meet_met {W : WL} (hc : Closed W) {n q : Nat} {p p' : FM × List Int} {at_ : Int} {f : Fr} (h : RightM W n q p.1) (h0 : 0 ≤ at_) (hn : at_ < (n : Int)) (hf : RightF W f) (hq : f.L.length = q) (hm : meetF W p at_ f = some p') :
  Met W n q p p' ∧ ∃ g, getK p'.1 at_ = some g ∧ FitsF W f g := by
 unfold meetF at hm
 cases hg : getK p.1 at_ with
 | none =>
  rw [hg] at hm
  simp only [Option.some.injEq] at hm
  subst hm
  exact ⟨met_set hc h h0 hn hf hq fun was hw => (by rw [hg] at hw; cases hw), f, (by show getK (setK p.1 at_ f) at_ = some f; rw [setK_get, if_pos rfl]), fitsF_refl hf⟩
 | some was =>
  rw [hg] at hm
  simp only at hm
  cases hb : bothF W was f with
  | none => rw [hb] at hm; cases hm
  | some g =>
   rw [hb] at hm
   simp only at hm
   obtain ⟨r1, r2, r3, r4⟩ := both_some hc (h.right at_ was hg).1 hf hb
   by_cases e : g = was
   ·rw [if_pos e] at hm
    obtain rfl := Option.some.inj hm
    exact ⟨met_refl h, was, hg, by rw [← e]; exact r3⟩
   ·rw [if_neg e] at hm
    obtain rfl := Option.some.inj hm
    refine ⟨met_set hc h h0 hn r1 ?_ fun w hw => ?_, g, (by show getK (setK p.1 at_ g) at_ = some g; rw [setK_get, if_pos rfl]), r3⟩
    ·rw [← (h.right at_ was hg).2]; exact (fits_len r2.L).symm
    ·rw [hg] at hw
     obtain rfl := Option.some.inj hw
     exact ⟨r2, r4.resolve_left e⟩
theorem meets_met {W : WL} (hc : Closed W) {n q : Nat} {f : Fr} (hf : RightF W f) (hq : f.L.length = q) : ∀ {l : List Int} {p p' : FM × List Int}, RightM W n q p.1 → (∀ a ∈ l, 0 ≤ a ∧ a < (n : Int)) → meetsF W f l p = some p' →
  Met W n q p p' ∧ ∀ a ∈ l, ∃ g, getK p'.1 a = some g ∧ FitsF W f g
 | [], p, p', h, _, hm => by
  simp only [meetsF, Option.some.injEq] at hm
  subst hm
  exact ⟨met_refl h, fun a ha => absurd ha List.not_mem_nil⟩
 | b :: l, p, p', h, hl, hm => by
  simp only [meetsF] at hm
  obtain ⟨p1, h1, h2⟩ := Option.bind_eq_some_iff.1 hm
  obtain ⟨m1, g1, hg1, hf1⟩ := meet_met hc h (hl b (List.mem_cons_self ..)).1 (hl b (List.mem_cons_self ..)).2 hf hq h1
  obtain ⟨m2, hg2⟩ := meets_met hc hf hq m1.right (fun a ha => hl a (List.mem_cons_of_mem _ ha)) h2
  refine ⟨m1.trans hc h m2, fun a ha => ?_⟩
  rcases List.mem_cons.1 ha with rfl | ha
  ·obtain ⟨g2, hg, hfg⟩ := m2.up a g1 hg1
   exact ⟨g2, hg, fitsF_trans hc hf (m1.right.right a g1 hg1).1 (m2.right.right a g2 hg).1 hf1 hfg⟩
  ·exact hg2 a ha
def lookF (W : WL) (cls gives : ByteArray) (code : List I) (p : FM × List Int) (at_ : Int) : Option (FM × List Int) := match getK p.1 at_, code[at_.toNat]? with
 | some f, some x => (afterF W cls gives x f).bind fun g => meetsF W g (afterOf x at_.toNat) p
 | _, _ => none
def workF (W : WL) (cls gives : ByteArray) (code : List I) : Nat → FM × List Int → Option FM
 | 0, _ => none
 | N + 1, (F, []) => some F
 | N + 1, (F, a :: r) => (lookF W cls gives code (F, r) a).bind (workF W cls gives code N)
structure GoodCode (code : List I) : Prop where
 ins : ∀ x ∈ code, insFault x = 0
 next : ∀ (k : Nat) (x : I), code[k]? = some x → ∀ a ∈ afterOf x k, 0 ≤ a ∧ a < (code.length : Int)
def Stable (W : WL) (cls gives : ByteArray) (code : List I) (F : FM) (a : Int) : Prop := ∀ f, getK F a = some f → ∃ x g, code[a.toNat]? = some x ∧ afterF W cls gives x f = some g ∧ ∀ b ∈ afterOf x a.toNat, ∃ h, getK F b = some h ∧ FitsF W g h
structure Works (W : WL) (cls gives : ByteArray) (code : List I) (q : Nat) (p : FM × List Int) : Prop where
 right : RightM W code.length q p.1
 todo : ∀ a ∈ p.2, (getK p.1 a).isSome = true
 done : ∀ a f, getK p.1 a = some f → a ∈ p.2 ∨ Stable W cls gives code p.1 a
theorem look_works {W : WL} (hc : Closed W) {cls gives : ByteArray} {code : List I} (hg : GoodCode code) {q : Nat} {F : FM} {a : Int} {r : List Int} {p' : FM × List Int} (h : Works W cls gives code q (F, a :: r))
  (hl : lookF W cls gives code (F, r) a = some p') : Works W cls gives code q p' ∧ UpM W F p'.1 ∧ 2 * pot W code.length q p'.1 + p'.2.length < 2 * pot W code.length q F + (a :: r).length := by
 obtain ⟨f, hf⟩ := Option.isSome_iff_exists.1 (h.todo a (List.mem_cons_self ..))
 simp only at hf
 unfold lookF at hl
 simp only [hf] at hl
 cases hx : code[a.toNat]? with
 | none => rw [hx] at hl; cases hl
 | some x =>
  rw [hx] at hl
  simp only at hl
  obtain ⟨g, hg1, hg2⟩ := Option.bind_eq_some_iff.1 hl
  obtain ⟨rf, rq⟩ := h.right.right a f hf
  obtain ⟨gr, gq⟩ := after_right (hg.ins x (List.mem_of_getElem? hx)) rf hg1
  obtain ⟨m, hm⟩ := meets_met (n := code.length) (q := q) hc gr (by rw [gq, rq]) (p := (F, r)) h.right (hg.next _ x hx) hg2
  have hless := m.less
  simp only at hless
  refine ⟨⟨m.right, fun b hb => ?_, fun b k hk => ?_⟩, m.up, by rw [List.length_cons]; omega⟩
  ·rcases m.keys b hb with h1 | h1
   ·obtain ⟨k, hk⟩ := Option.isSome_iff_exists.1 (h.todo b (List.mem_cons_of_mem _ h1))
    obtain ⟨k2, hk2, _⟩ := m.up b k hk
    rw [hk2]; rfl
   ·exact h1
  ·by_cases e : getK p'.1 b = getK F b
   ·by_cases eb : b = a
    ·subst eb
     refine .inr fun k2 hk2 => ⟨x, g, hx, ?_, fun d hd => hm d hd⟩
     rw [e, hf] at hk2
     rw [← Option.some.inj hk2]; exact hg1
    ·rcases h.done b k (by rw [← e]; exact hk) with h1 | h1
     ·rcases List.mem_cons.1 h1 with h1 | h1
      ·exact absurd h1 eb
      ·exact .inl (m.todo b h1)
     ·refine .inr fun k2 hk2 => ?_
      obtain ⟨x2, g2, hx2, ha2, hn2⟩ := h1 k2 (by rw [← e]; exact hk2)
      refine ⟨x2, g2, hx2, ha2, fun d hd => ?_⟩
      obtain ⟨t, ht, hft⟩ := hn2 d hd
      obtain ⟨t2, ht2, hft2⟩ := m.up d t ht
      obtain ⟨rf2, rq2⟩ := h.right.right b k2 (by rw [← e]; exact hk2)
      obtain ⟨gr2, _⟩ := after_right (hg.ins x2 (List.mem_of_getElem? hx2)) rf2 ha2
      exact ⟨t2, ht2, fitsF_trans hc gr2 (h.right.right d t ht).1 (m.right.right d t2 ht2).1 hft hft2⟩
   ·exact .inl (m.new_ b e)
structure Found (W : WL) (cls gives : ByteArray) (code : List I) (q : Nat) (F : FM) : Prop where
 right : RightM W code.length q F
 all : ∀ a f, getK F a = some f → Stable W cls gives code F a
theorem work_enough {W : WL} (hc : Closed W) {cls gives : ByteArray} {code : List I} (hg : GoodCode code) {q : Nat} : ∀ (N M : Nat) {p : FM × List Int}, Works W cls gives code q p → 2 * pot W code.length q p.1 + p.2.length < N → 2 * pot W code.length q p.1 + p.2.length < M →
  workF W cls gives code N p = workF W cls gives code M p
 | 0, _, _, _, h, _ => absurd h (Nat.not_lt_zero _)
 | _ + 1, 0, _, _, _, h => absurd h (Nat.not_lt_zero _)
 | N + 1, M + 1, (F, []), _, _, _ => rfl
 | N + 1, M + 1, (F, a :: r), hw, h1, h2 => by
  simp only [workF]
  cases hl : lookF W cls gives code (F, r) a with
  | none => rfl
  | some p' =>
   obtain ⟨hw', _, hless⟩ := look_works hc hg hw hl
   simp only [Option.bind_some]
   simp only at h1 h2
   exact work_enough hc hg N M hw' (by omega) (by omega)
end Go.Proofs.YtloonnfelgokmaaGreatDoor.worlds
