/- What of a heap is still needed, in plain words. No condition. -/
import Derived.Test.YtloonnfelgokmaaGreatDoorZWld1
import Derived.Test.YtloonnfelgokmaaGreatDoorZGrow
import Derived.Laws.StructEq
import Derived.BigQuiet
import Derived.Test.YtloonnfelgokmaaGreatDoorZOwn
import Derived.Test.YtloonnfelgokmaaGreatDoorZVrfZ
import Derived.Test.YtloonnfelgokmaaGreatDoorZNum1
import Derived.Test.YtloonnfelgokmaaGreatDoorZWldY
set_option maxRecDepth 100000
set_option maxHeartbeats 16000000
set_option linter.unusedSimpArgs false
set_option linter.unusedVariables false
namespace Go.Proofs.YtloonnfelgokmaaGreatDoor.worlds
open Go.RowKit lib maps classes descs
def Leads (v : Vl) : Prop := v.k = 3 ∧ 0 < v.n
instance (v : Vl) : Decidable (Leads v) := by unfold Leads; infer_instance
def left (S : List Bool) : Nat := (S.filter fun b => !b).length
def bare (x : Th) : Th := ⟨x.ty, .slice none 0 0, x.has⟩
open Go.RowKit lib errs grow
open Go.RowKit lib
theorem out_put_other {w0 w : World} {e eH : TypeId} {s : Nat} {v : Value} {n : Nat} {xs : List Value} {b j : Nat} {c : Array Value} {x : Value} (h : Out w0 w e s v n xs) (hb : w.heap[b]? = some (.cells c eH (0, 0))) (hne : e ≠ eH) (hle : w0.heap.size ≤ b) : Out w0 (w.setCell ⟨b, j, none⟩ x) e s v n xs := by
 refine ⟨h.own.kept (grown_set w ⟨b, j, none⟩ x) ?_, h.below.setCell hle x⟩
 cases hv : v.ownBlock with
 | none => exact .inl rfl
 | some k =>
  refine .inr fun he => ?_
  rcases h.own.2 with ⟨rfl, _⟩ | ⟨g, cap, cur, rfl, _, hg, _⟩
  ·cases hv
  ·simp only [Value.ownBlock, Option.some.injEq] at hv he
   subst hv
   subst he
   rw [hg] at hb
   simp only [Option.some.injEq, Obj.cells.injEq] at hb
   exact hne hb.2.1
theorem row_grown {w0 w w' : World} {e eH : TypeId} {s : Nat} {v : Value} {n : Nat} {xs : List Value} {b : Nat} {c : Array Value} (h : Out w0 w e s v n xs) (hb : w.heap[b]? = some (.cells c eH (0, 0))) (hne : e ≠ eH) (hg : w.grownBy w' v.ownBlock) : w'.heap[b]? = some (.cells c eH (0, 0)) := by
 rw [hg.block b (zh hb).1 ?_]
 ·exact hb
 ·intro he
  rcases h.own.2 with ⟨rfl, _⟩ | ⟨g, cap, cur, rfl, _, hg, _⟩
  ·cases he
  ·simp only [Value.ownBlock, Option.some.injEq] at he
   subst he
   rw [hg] at hb
   simp only [Option.some.injEq, Obj.cells.injEq] at hb
   exact hne hb.2.1
theorem setCell_row {w : World} {b j : Nat} {c : Array Value} {e : TypeId} {x : Value} (h : w.heap[b]? = some (.cells c e (0, 0))) : (w.setCell ⟨b, j, none⟩ x).heap[b]? = some (.cells (c.setIfInBounds j x) e (0, 0)) := by
 simp [World.setCell, Array.getElem?_modify, h]
theorem setCell_other {w : World} {b j k : Nat} {x : Value} (h : k ≠ b) : (w.setCell ⟨b, j, none⟩ x).heap[k]? = w.heap[k]? := by
 simp only [World.setCell, Array.getElem?_modify]
 rw [if_neg (fun e => h e.symm)]
open Go.RowKit lib maps classes errs descs names ins flows nums
structure Cl where
 cls : ByteArray
 m : MV
 at_ : Nat
 L : List Vl
 S : List Vl
structure Mac where
 H : List Th
 calls : List Cl
structure Told where
 v : Vl
 thrown : ByteArray
def noV : Vl := ⟨0, 0⟩
def kindV (t : ByteArray) : Int := if t = tI then 1 else 2
theorem ranged_jump {x : I} (h : insFault x = 0) (ho : jumpsOp x.op = true) : 0 ≤ x.a := by
 unfold insFault at h
 split at h
 ·cases h
 split at h
 ·cases h
 split at h
 ·cases h
 rename_i h3
 have : rangedOk x = true := by simpa using h3
 unfold rangedOk at this
 have hj : x.op = 12 ∨ x.op = 13 ∨ x.op = 14 := by simpa [jumpsOp, or_assoc] using ho
 rw [if_neg (by omega), if_neg (by omega), if_neg (by omega), if_pos ho, decide_eq_true_eq] at this
 exact this.1
def firstFr (m : MV) (ts : List (List UInt8)) : Fr := ⟨ts.map bs ++ List.replicate (m.lo.toNat - ts.length) tT, []⟩
theorem bad_all : ∀ {l : List I}, badIns l = 0 → ∀ x ∈ l, insFault x = 0
 | [], _, x, h => absurd h List.not_mem_nil
 | y :: r, h, x, hx => by
  unfold badIns at h
  by_cases hy : insFault y = 0
  ·rw [if_pos hy] at h
   rcases List.mem_cons.1 hx with rfl | hx
   ·exact hy
   ·exact bad_all h x hx
  ·rw [if_neg hy] at h; exact absurd h hy
theorem out_all {n : Nat} : ∀ {l : List I}, jumpsOut n l = false → ∀ x ∈ l, jumpsOp x.op = true → x.a < (n : Int)
 | [], _, x, h, _ => absurd h List.not_mem_nil
 | y :: r, h, x, hx, hj => by
  unfold jumpsOut at h
  split at h
  ·cases h
  rename_i hy
  rcases List.mem_cons.1 hx with rfl | hx
  ·rcases Int.lt_or_le x.a (n : Int) with h1 | h1
   ·exact h1
   ·exact absurd (And.intro hj h1) hy
  ·exact out_all h x hx hj
theorem good_code {l : List I} (h : codeFault l = 0) : GoodCode l ∧ l ≠ [] ∧ l.length ≤ 40 := by
 unfold codeFault at h
 split at h
 ·cases h
 rename_i h40
 split at h
 ·rename_i hb; exact absurd h hb
 rename_i hb
 split at h
 ·cases h
 rename_i hj
 split at h
 ·rename_i hl
  have hbad := bad_all (show badIns l = 0 by simpa using hb)
  have hout := out_all (show jumpsOut l.length l = false by simpa using hj)
  have hne : l ≠ [] := fun e => by rw [e] at hl; exact absurd hl (by decide)
  refine ⟨⟨hbad, fun k x hx a ha => ?_⟩, hne, by omega⟩
  have hk := (List.getElem?_eq_some_iff.1 hx).1
  have hxm := List.mem_of_getElem? hx
  unfold afterOf at ha
  rcases List.mem_append.1 ha with ha | ha
  ·split at ha
   ·exact absurd ha List.not_mem_nil
   ·rename_i he
    rw [List.mem_singleton.1 ha]
    have : k + 1 ≠ l.length := fun e => by
     rw [last_at e.symm] at hl
     have : l[k] = x := (List.getElem?_eq_some_iff.1 hx).2
     rw [this] at hl
     exact he hl
    omega
  ·split at ha
   ·rename_i hq
    rw [List.mem_singleton.1 ha]
    exact ⟨ranged_jump (hbad x hxm) hq.1, hout x hxm hq.1⟩
   ·exact absurd ha List.not_mem_nil
 ·cases h
def looksN (W : WL) (m : MV) : Nat := 2 * (m.code.length * topR W m.lo.toNat) + 2
def lookedF (W : WL) (cls : ByteArray) (m : MV) : Option FM := match methodOf m.ty.data.toList with
 | none => none
 | some (ts, g) => if ((firstFr m ts).L.all fun k => decide (kindF W k.data.toList = 0)) = false ∨ (g ≠ [86] ∧ kindF W g ≠ 0) then none
  else workF W cls (bs g) m.code (looksN W m) ([(0, firstFr m ts)], [0])
def methF (W : WL) (cls : ByteArray) (m : MV) : Int := if m.ab = true then 0 else if (lookedF W cls m).isSome = true then 0 else 7
def checkF (l : List CV) : Int := if (readW l).1 ≠ 0 then (readW l).1 else firstF (fun c => firstF (methF (readW l).2 c.nm) c.mets) l
theorem met_parts {c : CV} (h : clsFault c = 0) : ∀ m ∈ c.mets, ∃ b, metFault m b = 0 := by
 unfold clsFault at h
 split at h
 ·cases h
 split at h
 ·rename_i q; exact absurd h q
 split at h
 ·cases h
 split at h
 ·rename_i q; exact absurd h q
 split at h
 ·rename_i q; exact absurd h q
 rename_i q
 have q' : firstBad metFault [] c.mets = 0 := by simpa using q
 have key : ∀ {l a : List MV}, firstBad metFault a l = 0 → ∀ x ∈ l, ∃ b, metFault x b = 0 := by
  intro l
  induction l with
  | nil => intro a _ x hx; exact absurd hx List.not_mem_nil
  | cons y r ih =>
   intro a h x hx
   unfold firstBad at h
   by_cases hy : metFault y a = 0
   ·rw [if_pos hy] at h
    rcases List.mem_cons.1 hx with rfl | hx
    ·exact ⟨a, hy⟩
    ·exact ih h x hx
   ·rw [if_neg hy] at h; exact absurd h hy
 exact key q'
theorem met_good {m : MV} {b : List MV} (h : metFault m b = 0) (hab : m.ab = false) (hst : m.st = true) : ∃ ts g, methodOf m.ty.data.toList = some (ts, g) ∧ 0 ≤ m.lo ∧ m.lo ≤ 8 ∧ codeFault m.code = 0 ∧ ts.length ≤ m.lo.toNat := by
 unfold metFault at h
 split at h
 ·cases h
 split at h
 ·cases h
 rename_i hm
 split at h
 ·cases h
 split at h
 ·cases h
 rename_i hl
 unfold bodyFault at h
 rw [if_neg (by rw [hab]; decide)] at h
 split at h
 ·rename_i q; exact absurd h q
 rename_i hc
 split at h
 ·cases h
 rename_i hlo
 cases hmo : methodOf m.ty.data.toList with
 | none => exact absurd hmo hm
 | some p =>
  obtain ⟨ts, g⟩ := p
  refine ⟨ts, g, rfl, by omega, by omega, by simpa using hc, ?_⟩
  rw [hst, argsOf_some hmo, if_pos rfl] at hlo
  omega
end Go.Proofs.YtloonnfelgokmaaGreatDoor.worlds
