/- Maps in memory as lists of pairs, with integer or string keys: look-up, store, delete. No condition. -/
import Derived.Test.YtloonnfelgokmaaGreatDoorZLib
import Derived.MapKept
import Derived.Maps.OwnOps
import Derived.Maps.OwnSet
set_option maxRecDepth 100000
set_option maxHeartbeats 16000000
set_option linter.unusedSimpArgs false
set_option linter.unusedVariables false
namespace Go.Proofs.YtloonnfelgokmaaGreatDoor.maps
open Go.RowKit lib
structure KeyEnc (K : Type) [DecidableEq K] where
 d : TypeDesc
 kv : K → Value
 isKey : ∀ a, MapKept.IsKey d (kv a)
 same : ∀ a b, Instr.sameNow d (kv a) (kv b) = some (decide (a = b))
 bits : ∀ a, Instr.sameBits 10000 (kv a) (kv a) = true
def intKey : KeyEnc Int where
 d := .int .i64
 kv := .int .i64
 isKey := fun _ => rfl
 same := fun a b => by simp [Instr.sameNow]; rfl
 bits := fun a => by simp [Instr.sameBits]
section
variable {K : Type} [DecidableEq K] {α : Type}
def getK : List (K × α) → K → Option α
 | [], _ => none
 | (j, v) :: r, k => if k = j then some v else getK r k
def setK : List (K × α) → K → α → List (K × α)
 | [], k, v => [(k, v)]
 | (j, u) :: r, k, v => if k = j then (k, v) :: r else (j, u) :: setK r k v
theorem getK_set (l : List (K × α)) (k j : K) (v : α) : getK (setK l k v) j = if j = k then some v else getK l j := by
 induction l with
 | nil => simp [setK, getK]
 | cons x r ih =>
  obtain ⟨i, u⟩ := x
  simp only [setK]
  by_cases h : k = i
  ·subst h
   rw [if_pos rfl]
   simp only [getK]
   split <;> simp_all
  ·rw [if_neg h]
   simp only [getK, ih]
   by_cases hj : j = i
   ·subst hj; rw [if_pos rfl, if_neg (Ne.symm h), if_pos rfl]
   ·rw [if_neg hj, if_neg hj]
theorem getK_map {β : Type} (f : α → β) (l : List (K × α)) (k : K) : getK (l.map fun p => (p.1, f p.2)) k = (getK l k).map f := by
 induction l with
 | nil => rfl
 | cons x r ih =>
  obtain ⟨j, u⟩ := x
  simp only [List.map_cons, getK, ih]
  split <;> rfl
theorem setK_map {β : Type} (f : α → β) (l : List (K × α)) (k : K) (v : α) : setK (l.map fun p => (p.1, f p.2)) k (f v) = (setK l k v).map fun p => (p.1, f p.2) := by
 induction l with
 | nil => rfl
 | cons x r ih =>
  obtain ⟨j, u⟩ := x
  simp only [List.map_cons, setK, ih]
  split <;> rfl
theorem getK_mem {l : List (K × α)} {k : K} {v : α} (h : getK l k = some v) : (k, v) ∈ l := by
 induction l with
 | nil => cases h
 | cons x r ih =>
  obtain ⟨j, u⟩ := x
  simp only [getK] at h
  split at h
  ·rename_i e; subst e; cases h; exact List.mem_cons_self ..
  ·exact List.mem_cons_of_mem _ (ih h)
end
section
variable {K : Type} [DecidableEq K] (E : KeyEnc K)
def MapIs (w : World) (b : Nat) (l : List (K × Value)) : Prop :=
 ∃ es clock, w.heap[b]? = some (.map es clock) ∧ es.toList.map (fun e => (e.key, e.val)) = l.map fun p => (E.kv p.1, p.2)
def find : List (K × Value) → K → Nat → Option (Nat × Value)
 | [], _, _ => none
 | (j, v) :: r, k, i => if k = j then some (i, v) else find r k (i + 1)
theorem find_get (l : List (K × Value)) (k : K) (i : Nat) : (find l k i).map (·.2) = getK l k := by
 induction l generalizing i with
 | nil => rfl
 | cons x r ih =>
  obtain ⟨j, v⟩ := x
  simp only [find, getK]
  split
  ·rfl
  ·exact ih _
theorem findNow_is : ∀ (es : List MapEntry) (l : List (K × Value)) (k : K) (i : Nat), es.map (fun e => (e.key, e.val)) = l.map (fun p => (E.kv p.1, p.2)) → Instr.findNow E.d (E.kv k) es i = some (find l k i)
 | [], [], _, _, _ => rfl
 | [], _ :: _, _, _, h => by simp at h
 | _ :: _, [], _, _, h => by simp at h
 | e :: es, (j, v) :: l, k, i, h => by
  simp only [List.map_cons, List.cons.injEq, Prod.mk.injEq] at h
  obtain ⟨⟨h1, h2⟩, h3⟩ := h
  simp only [Instr.findNow, find]
  rw [h1, E.same]
  by_cases hk : k = j
  ·simp [hk, h2]
  ·simp [hk, findNow_is es l k (i + 1) h3]
theorem map_keep {w w' : World} {b : Nat} {l : List (K × Value)} (h : MapIs E w b l) (hb : w'.heap[b]? = w.heap[b]?) : MapIs E w' b l := by
 obtain ⟨es, c, h1, h2⟩ := h
 exact ⟨es, c, by rw [hb, h1], h2⟩
variable {E} {P : Program} {t k e : TypeId} (ht : P.underlying t = some (.map k e)) (hk : P.underlying k = some E.d)
include ht hk
theorem run_look_ok {w : World} {b : Nat} {l : List (K × Value)} (h : MapIs E w b l) (x : K) {z : Value} (hz : (zeroValue e).run P w = .ok z w) :
  (Instr.lookup t (.map (some b)) (E.kv x) true).run P w = .ok (.tuple #[(getK l x).getD z, .bool (getK l x).isSome]) w := by
 obtain ⟨es, c, hb, hl⟩ := h
 have hf := findNow_is E es.toList l x 0 hl
 have hr := MapKept.run_findKey (w := w) hk hf
 have hc := fun q n => MapKept.run_checkKey (P := P) (w := w) hk (E.isKey x) q n
 have hg := find_get l x 0
 cases hq : find l x 0 with
 | none =>
  rw [hq] at hr hg
  simp at hg
  simp [Instr.lookup, run_underlying ht, MapKept.run_getObj_map hb, hc, hr, hz, Result.andThen, ← hg]
 | some p =>
  rw [hq] at hr hg
  simp at hg
  simp [Instr.lookup, run_underlying ht, MapKept.run_getObj_map hb, hc, hr, Result.andThen, ← hg]
theorem run_look {w : World} {b : Nat} {l : List (K × Value)} (h : MapIs E w b l) (x : K) {z : Value} (hz : (zeroValue e).run P w = .ok z w) :
  (Instr.lookup t (.map (some b)) (E.kv x) false).run P w = .ok ((getK l x).getD z) w := by
 obtain ⟨es, c, hb, hl⟩ := h
 have hf := findNow_is E es.toList l x 0 hl
 have hr := MapKept.run_findKey (w := w) hk hf
 have hc := fun q n => MapKept.run_checkKey (P := P) (w := w) hk (E.isKey x) q n
 have hg := find_get l x 0
 cases hq : find l x 0 with
 | none =>
  rw [hq] at hr hg
  simp at hg
  simp [Instr.lookup, run_underlying ht, MapKept.run_getObj_map hb, hc, hr, hz, Result.andThen, ← hg]
 | some p =>
  rw [hq] at hr hg
  simp at hg
  simp [Instr.lookup, run_underlying ht, MapKept.run_getObj_map hb, hc, hr, Result.andThen, ← hg]
omit ht hk in
theorem set_list {es : List MapEntry} {l : List (K × Value)} {x : K} {v : Value} {i j : Nat} {u : Value} (hl : es.map (fun e => (e.key, e.val)) = l.map (fun p => (E.kv p.1, p.2))) (hf : find l x i = some (i + j, u)) :
  (es.modify j fun e => { e with key := E.kv x, val := v }).map (fun e => (e.key, e.val)) = (setK l x v).map fun p => (E.kv p.1, p.2) := by
 induction l generalizing es i j with
 | nil => cases hf
 | cons p r ih =>
  obtain ⟨y, q⟩ := p
  cases es with
  | nil => simp at hl
  | cons e es =>
   simp only [List.map_cons, List.cons.injEq, Prod.mk.injEq] at hl
   obtain ⟨⟨h1, h2⟩, h3⟩ := hl
   simp only [find] at hf
   simp only [setK]
   split at hf
   ·rename_i hxy
    simp at hf
    obtain ⟨rfl, rfl⟩ := hf
    rw [if_pos hxy]
    simp [h3]
   ·rename_i hxy
    rw [if_neg hxy]
    obtain ⟨j', rfl⟩ : ∃ j', j = j' + 1 := by
     have : ∀ (r : List (K × Value)) (m n : Nat) (u : Value), find r x m = some (n, u) → m ≤ n := by
      intro r
      induction r with
      | nil => intro m n u h; cases h
      | cons p r ih => 
       intro m n u h
       simp only [find] at h
       split at h
       ·simp at h; omega
       ·have := ih _ _ _ h; omega
     have := this _ _ _ _ hf
     exact ⟨j - 1, by omega⟩
    have := ih (i := i + 1) (j := j') h3 (by rw [hf]; congr 2; omega)
    simp [this, h1, h2]
omit ht hk in
theorem push_list {es : List MapEntry} {l : List (K × Value)} {x : K} {v : Value} {i c : Nat} (hl : es.map (fun e => (e.key, e.val)) = l.map (fun p => (E.kv p.1, p.2))) (hf : find l x i = none) :
  (es ++ [({ key := E.kv x, val := v, born := c } : MapEntry)]).map (fun e => (e.key, e.val)) = (setK l x v).map fun p => (E.kv p.1, p.2) := by
 induction l generalizing es i with
 | nil =>
  have : es = [] := by simpa using hl
  subst this
  simp [setK]
 | cons p r ih =>
  obtain ⟨y, q⟩ := p
  cases es with
  | nil => simp at hl
  | cons e es =>
   simp only [List.map_cons, List.cons.injEq, Prod.mk.injEq] at hl
   obtain ⟨⟨h1, h2⟩, h3⟩ := hl
   simp only [find] at hf
   split at hf
   ·cases hf
   ·rename_i hxy
    simp only [setK]
    rw [if_neg hxy]
    have := ih (i := i + 1) h3 hf
    simp only [List.cons_append, List.map_cons, this, h1, h2]
omit ht hk in
omit ht hk in
omit ht hk in
theorem grown_set {w : World} {b : Nat} {o : Obj} (o' : Obj) (hb : w.heap[b]? = some o) : w.grownBy { w with heap := w.heap.setIfInBounds b o' } (some b) :=
 ⟨rfl, rfl, rfl, by simp, fun j _ hne => (MapKept.heap_set (o' := o') hb).2 j (fun e => hne (by rw [e]))⟩
theorem run_update {w : World} {b : Nat} {l : List (K × Value)} (h : MapIs E w b l) (x : K) (v : Value) :
  ∃ w', (Instr.mapUpdate t (.map (some b)) (E.kv x) v).run P w = .ok () w' ∧ MapIs E w' b (setK l x v) ∧ w.grownBy w' (some b) := by
 obtain ⟨es, c, hb, hl⟩ := h
 have hf := findNow_is E es.toList l x 0 hl
 have hr := MapKept.run_findKey (w := w) hk hf
 have hc := fun q n => MapKept.run_checkKey (P := P) (w := w) hk (E.isKey x) q n
 cases hq : find l x 0 with
 | none =>
  rw [hq] at hr
  refine ⟨_, by simp [Instr.mapUpdate, run_underlying ht, MapKept.run_getObj_map hb, hc, hr, Result.andThen, MapKept.run_setObj_map _ hb]; rfl, ⟨_, _, (MapKept.heap_set hb).1, ?_⟩, grown_set _ hb⟩
  rw [Array.toList_push]
  exact push_list hl hq
 | some p =>
  obtain ⟨i, u⟩ := p
  rw [hq] at hr
  have hst : (Instr.keyThatStays (((es[i]?).map (·.key)).getD (E.kv x)) (E.kv x)).run P w = .ok (E.kv x) w := by
   have hkey : ((es[i]?).map (·.key)).getD (E.kv x) = E.kv x := by
    have : ∀ (es : List MapEntry) (l : List (K × Value)) (m i : Nat) (u : Value), es.map (fun e => (e.key, e.val)) = l.map (fun p => (E.kv p.1, p.2)) → find l x m = some (m + i, u) → ((es[i]?).map (·.key)).getD (E.kv x) = E.kv x := by
     intro es l
     induction l generalizing es with
     | nil => intro m i u _ h; cases h
     | cons p r ih =>
      intro m i u hl h
      obtain ⟨y, q⟩ := p
      cases es with
      | nil => simp at hl
      | cons e es =>
       simp only [List.map_cons, List.cons.injEq, Prod.mk.injEq] at hl
       obtain ⟨⟨h1, h2⟩, h3⟩ := hl
       simp only [find] at h
       split at h
       ·rename_i hxy
        simp at h
        obtain ⟨rfl, _⟩ := h
        simp [h1, hxy]
       ·cases i with
        | zero =>
         have : ∀ (r : List (K × Value)) (m n : Nat) (u : Value), find r x m = some (n, u) → m ≤ n := by
          intro r
          induction r with
          | nil => intro m n u h; cases h
          | cons p r ih => 
           intro m n u h
           simp only [find] at h
           split at h
           ·simp at h; omega
           ·have := ih _ _ _ h; omega
         have := this _ _ _ _ h
         omega
        | succ i => simpa using ih es (m + 1) i u h3 (by rw [h]; congr 2; omega)
    have := this es.toList l 0 i u hl (by rw [hq]; simp)
    simpa using this
   rw [hkey]
   simp [Instr.keyThatStays, E.bits]
  refine ⟨_, by simp [Instr.mapUpdate, run_underlying ht, MapKept.run_getObj_map hb, hc, hr, hst, Result.andThen, MapKept.run_setObj_map _ hb]; rfl, ⟨_, _, (MapKept.heap_set hb).1, ?_⟩, grown_set _ hb⟩
  rw [Array.toList_modify]
  exact set_list (u := u) hl (i := 0) (by rw [hq]; simp)
theorem wpList_update (w : World) {ops : Array Oper} {rest : List Oper} {o : Oper} {a : Act} {Q : Exit → Act → World → Prop} (hg : o.guard = none) (m x v : Operand) (hop : o.op = Op.mapUpdate t m x v)
  {b : Nat} {l : List (K × Value)} (h : MapIs E w b l) (y : K) (val : Value) (hm : a.eval m = .map (some b)) (hx : a.eval x = E.kv y) (hv : a.eval v = val)
  (hK : ∀ w', MapIs E w' b (setK l y val) → w.grownBy w' (some b) → wpList P ops Q rest (a.put o.dst undef) w') : wpList P ops Q (o :: rest) a w := by
 refine wpList_plain hg fun K' hK' => ?_
 obtain ⟨w', hrun, r1, r2⟩ := run_update ht hk h y val
 unfold Oper.wp
 simp [execOp, hop, hm, hx, hv, hrun, Result.andThen]
 exact hK' _ _ (hK w' r1 r2)
end
end Go.Proofs.YtloonnfelgokmaaGreatDoor.maps
