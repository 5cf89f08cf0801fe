/- Lists of instructions in memory; what is wrong with code, plainly. No condition. -/
import Derived.Test.YtloeaihbnnnncaaGreatDoorIns1
import Derived.Test.YtloeaihbnnnncaaGreatDoorErrV
namespace Go.Proofs.YtloeaihbnnnncaaGreatDoor.flows
open Go.RowKit Go.Proofs.YtloeaihbnnnncaaGreatDoor.lib Go.Proofs.YtloeaihbnnnncaaGreatDoor.errs Go.Proofs.YtloeaihbnnnncaaGreatDoor.names Go.Proofs.YtloeaihbnnnncaaGreatDoor.descs Go.Proofs.YtloeaihbnnnncaaGreatDoor.ins

abbrev cellsOf (l : List I) : List Value := l.flatMap I.cells
theorem cells_len (l : List I) : (cellsOf l).length = l.length * 6 := by
  induction l with
  | nil => rfl
  | cons x l ih => rw [cellsOf, List.flatMap_cons, List.length_append, List.length_cons]; rw [cellsOf] at ih; rw [ih]; show 6 + _ = _; omega
theorem cells_at : ∀ (l : List I) (k j : Nat) (hk : k < l.length), j < 6 → (cellsOf l)[k * 6 + j]? = l[k].cells[j]?
  | x :: l, 0, j, _, hj => by
    rw [cellsOf, List.flatMap_cons, List.getElem?_append_left (by show 0 * 6 + j < 6; omega), Nat.zero_mul, Nat.zero_add]; rfl
  | x :: l, k + 1, j, hk, hj => by
    rw [cellsOf, List.flatMap_cons, List.getElem?_append_right (by show 6 ≤ (k + 1) * 6 + j; omega)]
    have := cells_at l k j (by simpa using hk) hj
    rw [cellsOf] at this
    rw [show (k + 1) * 6 + j - x.cells.length = k * 6 + j from by show (k + 1) * 6 + j - 6 = _; omega, this]
    simp

/-- the slice reads as these instructions -/
abbrev Code (w : World) (v : Value) (l : List I) : Prop := Sl w v l.length 6 (cellsOf l)
theorem code_at {w : World} {a : Option Addr} {n c : Nat} {l : List I} (h : Code w (.slice a n c) l) {k : Nat} (hk : k < l.length) :
    ∃ b off, a = some ⟨b, off, none⟩ ∧ w.cell? ⟨b, off + k * 6, none⟩ = some (.int .i64 l[k].op) ∧ w.cell? ⟨b, off + k * 6 + 1, none⟩ = some (.int .i64 l[k].a) ∧ w.cell? ⟨b, off + k * 6 + 2, none⟩ = some (.int .i64 l[k].b) ∧
      w.cell? ⟨b, off + k * 6 + 3, none⟩ = some (.string l[k].t) ∧ w.cell? ⟨b, off + k * 6 + 4, none⟩ = some (.string l[k].c) ∧ w.cell? ⟨b, off + k * 6 + 5, none⟩ = some (.string l[k].n) := by
  obtain ⟨_, a', c', he, _, h⟩ := h
  simp only [Value.slice.injEq] at he
  obtain ⟨rfl, _, _⟩ := he
  rcases h with h | ⟨b, off, rfl, h⟩
  · have := cells_len l
    rw [h] at this
    simp at this; omega
  · have key : ∀ j, j < 6 → ∀ u, l[k].cells[j]? = some u → w.cell? ⟨b, off + k * 6 + j, none⟩ = some u := fun j hj u hu => by
      rw [Nat.add_assoc]
      exact h _ u (by rw [cells_at l k j hk hj]; exact hu)
    exact ⟨b, off, rfl, key 0 (by decide) _ rfl, key 1 (by decide) _ rfl, key 2 (by decide) _ rfl, key 3 (by decide) _ rfl, key 4 (by decide) _ rfl, key 5 (by decide) _ rfl⟩

/-- its texts are not long -/
def Small (x : I) : Prop := x.t.size ≤ 10000000 ∧ x.c.size ≤ 9223372036854775807 ∧ x.n.size ≤ 9223372036854775807

def badIns : List I → Int
  | [] => 0
  | x :: r => if insFault x = 0 then badIns r else insFault x
def jumpsOut (n : Nat) : List I → Bool
  | [] => false
  | x :: r => if jumpsOp x.op = true ∧ (n : Int) ≤ x.a then true else jumpsOut n r
def lastEnds (l : List I) : Bool := match l.getLast? with | none => false | some x => endsOp x.op
/-- what is wrong with code; 0: nothing -/
def codeFault (l : List I) : Int :=
  if 40 < l.length then 4 else if badIns l ≠ 0 then badIns l else if jumpsOut l.length l = true then 2 else if lastEnds l = true then 0 else 8

theorem bad_ok {l : List I} {k : Nat} (hk : k < l.length) (h : insFault l[k] = 0) : badIns (l.drop k) = badIns (l.drop (k + 1)) := by rw [List.drop_eq_getElem_cons hk, badIns, if_pos h]
theorem bad_no {l : List I} {k : Nat} (hk : k < l.length) (h : ¬ insFault l[k] = 0) : badIns (l.drop k) = insFault l[k] := by rw [List.drop_eq_getElem_cons hk, badIns, if_neg h]
theorem bad_end {l : List I} {k : Nat} (hk : ¬ k < l.length) : badIns (l.drop k) = 0 := by rw [List.drop_eq_nil_of_le (by omega)]; rfl
theorem out_ok {m : Nat} {l : List I} {k : Nat} (hk : k < l.length) (h : ¬ (jumpsOp l[k].op = true ∧ (m : Int) ≤ l[k].a)) : jumpsOut m (l.drop k) = jumpsOut m (l.drop (k + 1)) := by rw [List.drop_eq_getElem_cons hk, jumpsOut, if_neg h]
theorem out_no {m : Nat} {l : List I} {k : Nat} (hk : k < l.length) (h : jumpsOp l[k].op = true ∧ (m : Int) ≤ l[k].a) : jumpsOut m (l.drop k) = true := by rw [List.drop_eq_getElem_cons hk, jumpsOut, if_pos h]
theorem out_end {m : Nat} {l : List I} {k : Nat} (hk : ¬ k < l.length) : jumpsOut m (l.drop k) = false := by rw [List.drop_eq_nil_of_le (by omega)]; rfl
theorem errVal_ne {e : Int} (h : ¬ e = 0) : errVal e = .iface 58 (.int .i64 e) := by unfold errVal; rw [if_neg h]
theorem errVal_zero {e : Int} (h : e = 0) : errVal e = .nilIface := by unfold errVal; rw [if_pos h]
theorem last_at {l : List I} {k : Nat} (h : l.length = k + 1) : lastEnds l = endsOp (l[k]'(by omega)).op := by
  unfold lastEnds
  rw [List.getLast?_eq_getElem?, show l.length - 1 = k by omega, List.getElem?_eq_getElem (by omega)]

end Go.Proofs.YtloeaihbnnnncaaGreatDoor.flows
