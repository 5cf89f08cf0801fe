/- Classes in memory: lists of fields and of methods. No condition. -/
import Derived.Test.YtloonnfelgokmaaGreatDoorZHdl1
set_option maxRecDepth 100000
set_option maxHeartbeats 16000000
set_option linter.unusedSimpArgs false
set_option linter.unusedVariables false
namespace Go.Proofs.YtloonnfelgokmaaGreatDoor.classes
open Go.RowKit lib errs names descs ins flows hdls
structure MV where
 nm : ByteArray
 ty : ByteArray
 st : Bool
 ab : Bool
 pr : Bool
 lo : Int
 vc : Value
 vh : Value
 code : List I
 hs : List Hd
def MV.cells (m : MV) : List Value := [.string m.nm, .string m.ty, .bool m.st, .bool m.ab, .bool m.pr, .int .i64 m.lo, m.vc, m.vh]
structure MV.At (w : World) (m : MV) : Prop where
 code : flows.Code w m.vc m.code
 hs : Hds w m.vh m.hs
theorem MV.At.below {w w' : World} {m : MV} (h : m.At w) (hb : Below w.heap.size w w') : m.At w' := ⟨h.code.below hb, h.hs.below hb⟩
structure SmallM (m : MV) : Prop where
 nm : m.nm.size ≤ 1048576
 ty : m.ty.size ≤ 1048576
 len : m.code.length ≤ 1048576
 code : ∀ x ∈ m.code, Small x
 hlen : m.hs.length ≤ 1048576
 hs : ∀ x ∈ m.hs, x.cls.size ≤ 1048576
structure Fd where
 nm : ByteArray
 ty : ByteArray
def Fd.cells (x : Fd) : List Value := [.string x.nm, .string x.ty]
theorem flat_len {T : Type} {cells : T → List Value} {sz : Nat} (hlen : ∀ x, (cells x).length = sz) (l : List T) : (l.flatMap cells).length = l.length * sz := by
 induction l with
 | nil => simp
 | cons x l ih => rw [List.flatMap_cons, List.length_append, ih, hlen, List.length_cons, Nat.succ_mul, Nat.add_comm]
theorem flat_get {T : Type} {cells : T → List Value} {sz : Nat} (hlen : ∀ x, (cells x).length = sz) : ∀ (l : List T) (k j : Nat) (hk : k < l.length), j < sz → (l.flatMap cells)[k * sz + j]? = (cells l[k])[j]?
 | x :: l, 0, j, _, hj => by
  rw [List.flatMap_cons, List.getElem?_append_left (by rw [hlen, Nat.zero_mul]; omega), Nat.zero_mul, Nat.zero_add]; rfl
 | x :: l, k + 1, j, hk, hj => by
  have hk2 : k < l.length := by simpa using hk
  have e : (k + 1) * sz + j - sz = k * sz + j := by rw [Nat.succ_mul]; omega
  rw [List.flatMap_cons, List.getElem?_append_right (by rw [hlen, Nat.succ_mul]; omega), hlen, e, flat_get hlen l k j hk2 hj]
  simp
theorem row_at {T : Type} {cells : T → List Value} {sz : Nat} (hlen : ∀ x, (cells x).length = sz) {w : World} {a : Option Addr} {n c : Nat} {l : List T} (h : Sl w (.slice a n c) l.length sz (l.flatMap cells)) {k : Nat} (hk : k < l.length) (hsz : 0 < sz) :
  ∃ b off, a = some ⟨b, off, none⟩ ∧ ∀ j, j < sz → w.cell? ⟨b, off + (k * sz + j), none⟩ = (cells l[k])[j]? := by
 obtain ⟨_, a', c', he, _, h⟩ := h
 simp only [Value.slice.injEq] at he
 obtain ⟨rfl, _, _⟩ := he
 rcases h with h | ⟨b, off, rfl, h⟩
 ·have := flat_len hlen l
  rw [h, List.length_nil] at this
  have h2 : 1 * 1 ≤ l.length * sz := Nat.mul_le_mul (by omega) (by omega)
  omega
 ·refine ⟨b, off, rfl, fun j hj => ?_⟩
  have hj2 : j < (cells l[k]).length := by rw [hlen]; exact hj
  rw [List.getElem?_eq_getElem hj2]
  exact h _ _ (by rw [flat_get hlen l k j hk hj, List.getElem?_eq_getElem hj2])
abbrev Fds (w : World) (v : Value) (l : List Fd) : Prop := Sl w v l.length 2 (l.flatMap Fd.cells)
theorem fd_at {w : World} {a : Option Addr} {n c : Nat} {l : List Fd} (h : Fds w (.slice a n c) l) {k : Nat} (hk : k < l.length) :
  ∃ b off, a = some ⟨b, off, none⟩ ∧ w.cell? ⟨b, off + k * 2, none⟩ = some (.string l[k].nm) ∧ w.cell? ⟨b, off + k * 2 + 1, none⟩ = some (.string l[k].ty) := by
 obtain ⟨b, off, ha, hc⟩ := row_at (cells := Fd.cells) (sz := 2) (fun _ => rfl) h hk (by decide)
 refine ⟨b, off, ha, ?_, ?_⟩
 ·have := hc 0 (by decide); rw [Nat.add_zero] at this; exact this
 ·have := hc 1 (by decide); rw [← Nat.add_assoc] at this; exact this
structure Mets (w : World) (v : Value) (l : List MV) : Prop where
 sl : Sl w v l.length 8 (l.flatMap MV.cells)
 at_ : ∀ m ∈ l, m.At w
theorem Mets.below {w w' : World} {v : Value} {l : List MV} (h : Mets w v l) (hb : Below w.heap.size w w') : Mets w' v l := ⟨h.sl.below hb, fun m hm => (h.at_ m hm).below hb⟩
theorem met_at {w : World} {a : Option Addr} {n c : Nat} {l : List MV} (h : Mets w (.slice a n c) l) {k : Nat} (hk : k < l.length) :
  ∃ b off, a = some ⟨b, off, none⟩ ∧ w.cell? ⟨b, off + k * 8, none⟩ = some (.string l[k].nm) ∧ w.cell? ⟨b, off + k * 8 + 1, none⟩ = some (.string l[k].ty) ∧ w.cell? ⟨b, off + k * 8 + 2, none⟩ = some (.bool l[k].st) ∧
   w.cell? ⟨b, off + k * 8 + 3, none⟩ = some (.bool l[k].ab) ∧ w.cell? ⟨b, off + k * 8 + 4, none⟩ = some (.bool l[k].pr) ∧ w.cell? ⟨b, off + k * 8 + 5, none⟩ = some (.int .i64 l[k].lo) ∧
   w.cell? ⟨b, off + k * 8 + 6, none⟩ = some l[k].vc ∧ w.cell? ⟨b, off + k * 8 + 7, none⟩ = some l[k].vh := by
 obtain ⟨b, off, ha, hc⟩ := row_at (cells := MV.cells) (sz := 8) (fun _ => rfl) h.sl hk (by decide)
 refine ⟨b, off, ha, ?_, ?_, ?_, ?_, ?_, ?_, ?_, ?_⟩
 ·have := hc 0 (by decide); rw [Nat.add_zero] at this; exact this
 ·have := hc 1 (by decide); rw [← Nat.add_assoc] at this; exact this
 ·have := hc 2 (by decide); rw [← Nat.add_assoc] at this; exact this
 ·have := hc 3 (by decide); rw [← Nat.add_assoc] at this; exact this
 ·have := hc 4 (by decide); rw [← Nat.add_assoc] at this; exact this
 ·have := hc 5 (by decide); rw [← Nat.add_assoc] at this; exact this
 ·have := hc 6 (by decide); rw [← Nat.add_assoc] at this; exact this
 ·have := hc 7 (by decide); rw [← Nat.add_assoc] at this; exact this
def locOp (op : Int) : Bool := decide (op = 4 ∨ op = 5)
def farLoc (lo : Int) : List I → Bool
 | [] => false
 | x :: r => if locOp x.op = true ∧ lo ≤ x.a then true else farLoc lo r
theorem far_ok {lo : Int} {l : List I} {k : Nat} (hk : k < l.length) (h : ¬ (locOp l[k].op = true ∧ lo ≤ l[k].a)) : farLoc lo (l.drop k) = farLoc lo (l.drop (k + 1)) := by rw [List.drop_eq_getElem_cons hk, farLoc, if_neg h]
theorem far_no {lo : Int} {l : List I} {k : Nat} (hk : k < l.length) (h : locOp l[k].op = true ∧ lo ≤ l[k].a) : farLoc lo (l.drop k) = true := by rw [List.drop_eq_getElem_cons hk, farLoc, if_pos h]
theorem far_end {lo : Int} {l : List I} {k : Nat} (hk : ¬ k < l.length) : farLoc lo (l.drop k) = false := by rw [List.drop_eq_nil_of_le (by omega)]; rfl
def argsOf (st : Bool) (ty : List UInt8) : Int := match methodOf ty with | none => 0 | some (ts, _) => if st = true then (ts.length : Int) else (ts.length : Int) + 1
theorem argsOf_none {st : Bool} {ty : List UInt8} (h : methodOf ty = none) : argsOf st ty = 0 := by unfold argsOf; rw [h]
theorem argsOf_some {st : Bool} {ty g : List UInt8} {ts : List (List UInt8)} (h : methodOf ty = some (ts, g)) : argsOf st ty = if st = true then (ts.length : Int) else (ts.length : Int) + 1 := by unfold argsOf; rw [h]
def absFault (st pr : Bool) (n m : Nat) : Int := if st = true ∨ pr = true ∨ 0 < n ∨ 0 < m then 8 else 0
theorem abs_bad {st pr : Bool} {n m : Nat} (h : st = true ∨ pr = true ∨ 0 < n ∨ 0 < m) : errVal (absFault st pr n m) = .iface 53 (.int .i64 8) ∧ absFault st pr n m = 8 := by
 have : absFault st pr n m = 8 := if_pos h
 rw [this]; exact ⟨rfl, rfl⟩
theorem abs_good {st pr : Bool} {n m : Nat} (h : ¬ (st = true ∨ pr = true ∨ 0 < n ∨ 0 < m)) : errVal (absFault st pr n m) = .nilIface ∧ absFault st pr n m = 0 := by
 have : absFault st pr n m = 0 := if_neg h
 rw [this]; exact ⟨rfl, rfl⟩
def bodyFault (m : MV) : Int :=
 if m.ab = true then absFault m.st m.pr m.code.length m.hs.length
 else if codeFault m.code ≠ 0 then codeFault m.code else if m.lo < argsOf m.st m.ty.data.toList then 2 else if farLoc m.lo m.code = true then 2 else hdFault m.code.length m.hs
def twin (nm ty : ByteArray) : List MV → Bool
 | [] => false
 | x :: r => if x.nm = nm ∧ x.ty = ty then true else twin nm ty r
theorem twin_no {nm ty : ByteArray} {l : List MV} {k : Nat} (hk : k < l.length) (h : ¬ (l[k].nm = nm ∧ l[k].ty = ty)) : twin nm ty (l.drop k) = twin nm ty (l.drop (k + 1)) := by rw [List.drop_eq_getElem_cons hk, twin, if_neg h]
theorem twin_yes {nm ty : ByteArray} {l : List MV} {k : Nat} (hk : k < l.length) (h : l[k].nm = nm ∧ l[k].ty = ty) : twin nm ty (l.drop k) = true := by rw [List.drop_eq_getElem_cons hk, twin, if_pos h]
theorem twin_end {nm ty : ByteArray} {l : List MV} {k : Nat} (hk : ¬ k < l.length) : twin nm ty (l.drop k) = false := by rw [List.drop_eq_nil_of_le (by omega)]; rfl
def metFault (m : MV) (ahead : List MV) : Int :=
 if nameOk m.nm.data.toList = false then 1 else if methodOf m.ty.data.toList = none then 1 else if twin m.nm m.ty ahead = true then 5 else if m.lo < 0 ∨ 8 < m.lo then 2 else bodyFault m
structure CV where
 nm : ByteArray
 sup : ByteArray
 vf : Value
 face : Bool
 vd : Value
 vm : Value
 faces : List ByteArray
 fields : List Fd
 mets : List MV
def CV.cells (c : CV) : List Value := [.string c.nm, .string c.sup, c.vf, .bool c.face, c.vd, c.vm]
structure CV.At (w : World) (c : CV) : Prop where
 faces : Sl w c.vf c.faces.length 1 (c.faces.map .string)
 fields : Fds w c.vd c.fields
 mets : Mets w c.vm c.mets
theorem CV.At.below {w w' : World} {c : CV} (h : c.At w) (hb : Below w.heap.size w w') : c.At w' := ⟨h.faces.below hb, h.fields.below hb, h.mets.below hb⟩
structure SmallC (c : CV) : Prop where
 nm : c.nm.size ≤ 1048576
 sup : c.sup.size ≤ 1048576
 flen : c.faces.length ≤ 1048576
 faces : ∀ x ∈ c.faces, x.size ≤ 1048576
 dlen : c.fields.length ≤ 1048576
 fields : ∀ x ∈ c.fields, x.nm.size ≤ 1048576 ∧ x.ty.size ≤ 1048576
 mlen : c.mets.length ≤ 1048576
 mets : ∀ x ∈ c.mets, SmallM x
def inTexts (s : ByteArray) : List ByteArray → Bool
 | [] => false
 | x :: r => if x = s then true else inTexts s r
theorem inT_mem {s : ByteArray} : ∀ {l : List ByteArray}, inTexts s l = true ↔ s ∈ l
 | [] => by simp [inTexts]
 | x :: r => by
  unfold inTexts
  by_cases h : x = s
  ·rw [if_pos h]; simp [h]
  ·rw [if_neg h, inT_mem, List.mem_cons]
   exact ⟨.inr, fun h2 => h2.resolve_left (fun e => h e.symm)⟩
def inFds (s : ByteArray) : List Fd → Bool
 | [] => false
 | x :: r => if x.nm = s then true else inFds s r
theorem inF_no {s : ByteArray} {l : List Fd} {k : Nat} (hk : k < l.length) (h : ¬ l[k].nm = s) : inFds s (l.drop k) = inFds s (l.drop (k + 1)) := by rw [List.drop_eq_getElem_cons hk, inFds, if_neg h]
theorem inF_yes {s : ByteArray} {l : List Fd} {k : Nat} (hk : k < l.length) (h : l[k].nm = s) : inFds s (l.drop k) = true := by rw [List.drop_eq_getElem_cons hk, inFds, if_pos h]
theorem inF_end {s : ByteArray} {l : List Fd} {k : Nat} (hk : ¬ k < l.length) : inFds s (l.drop k) = false := by rw [List.drop_eq_nil_of_le (by omega)]; rfl
def firstBad {T : Type} (f : T → List T → Int) (ahead : List T) : List T → Int
 | [] => 0
 | x :: r => if f x ahead = 0 then firstBad f (ahead ++ [x]) r else f x ahead
theorem fb_ok {T : Type} {f : T → List T → Int} {l : List T} {k : Nat} (hk : k < l.length) (h : f l[k] (l.take k) = 0) : firstBad f (l.take k) (l.drop k) = firstBad f (l.take (k + 1)) (l.drop (k + 1)) := by
 rw [List.drop_eq_getElem_cons hk, firstBad, if_pos h, List.take_succ_eq_append_getElem hk]
theorem fb_no {T : Type} {f : T → List T → Int} {l : List T} {k : Nat} (hk : k < l.length) (h : ¬ f l[k] (l.take k) = 0) : firstBad f (l.take k) (l.drop k) = f l[k] (l.take k) := by
 rw [List.drop_eq_getElem_cons hk, firstBad, if_neg h]
theorem fb_end {T : Type} {f : T → List T → Int} {l : List T} {k : Nat} (hk : ¬ k < l.length) : firstBad f (l.take k) (l.drop k) = 0 := by rw [List.drop_eq_nil_of_le (by omega)]; rfl
def faceFault (x : ByteArray) (ahead : List ByteArray) : Int := if nameOk x.data.toList = false then 1 else if inTexts x ahead = true then 5 else 0
def fieldFault (x : Fd) (ahead : List Fd) : Int := if nameOk x.nm.data.toList = false then 1 else if isTy x.ty.data.toList = false then 1 else if inFds x.nm ahead = true then 5 else 0
def headBad (c : CV) : Bool := if nameOk c.nm.data.toList = false then true else if c.sup.data.toList = [] then false else !nameOk c.sup.data.toList
def clsFault (c : CV) : Int :=
 if headBad c = true then 1 else if firstBad faceFault [] c.faces ≠ 0 then firstBad faceFault [] c.faces
 else if 8 < c.faces.length ∨ 8 < c.fields.length ∨ 8 < c.mets.length then 4
 else if firstBad fieldFault [] c.fields ≠ 0 then firstBad fieldFault [] c.fields
 else if firstBad metFault [] c.mets ≠ 0 then firstBad metFault [] c.mets
 else if c.face = true ∧ 0 < c.fields.length then 8 else 0
end Go.Proofs.YtloonnfelgokmaaGreatDoor.classes
