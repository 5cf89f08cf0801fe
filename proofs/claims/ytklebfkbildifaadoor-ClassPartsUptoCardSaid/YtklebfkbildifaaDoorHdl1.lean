/- Handlers of a method: lists of them in memory. No condition. -/
import Derived.Test.YtklebfkbildifaaDoorFlow1
namespace Go.Proofs.YtklebfkbildifaaDoor.hdls
open Go.RowKit Go.Proofs.YtklebfkbildifaaDoor.lib Go.Proofs.YtklebfkbildifaaDoor.errs Go.Proofs.YtklebfkbildifaaDoor.names Go.Proofs.YtklebfkbildifaaDoor.descs

/-- a handler -/
structure Hd where
  fr : Int
  to : Int
  at_ : Int
  cls : ByteArray
def Hd.cells (x : Hd) : List Value := [.int .i64 x.fr, .int .i64 x.to, .int .i64 x.at_, .string x.cls]
abbrev hcells (l : List Hd) : List Value := l.flatMap Hd.cells
theorem hcells_len (l : List Hd) : (hcells l).length = l.length * 4 := by
  induction l with
  | nil => rfl
  | cons x l ih => rw [hcells, List.flatMap_cons, List.length_append, List.length_cons]; rw [hcells] at ih; rw [ih]; show 4 + _ = _; omega
theorem hcells_at : ∀ (l : List Hd) (k j : Nat) (hk : k < l.length), j < 4 → (hcells l)[k * 4 + j]? = l[k].cells[j]?
  | x :: l, 0, j, _, hj => by
    rw [hcells, List.flatMap_cons, List.getElem?_append_left (by show 0 * 4 + j < 4; omega), Nat.zero_mul, Nat.zero_add]; rfl
  | x :: l, k + 1, j, hk, hj => by
    rw [hcells, List.flatMap_cons, List.getElem?_append_right (by show 4 ≤ (k + 1) * 4 + j; omega)]
    have := hcells_at l k j (by simpa using hk) hj
    rw [hcells] at this
    rw [show (k + 1) * 4 + j - x.cells.length = k * 4 + j from by show (k + 1) * 4 + j - 4 = _; omega, this]
    simp
/-- the slice reads as these handlers -/
abbrev Hds (w : World) (v : Value) (l : List Hd) : Prop := Sl w v l.length 4 (hcells l)
theorem hd_at {w : World} {a : Option Addr} {n c : Nat} {l : List Hd} (h : Hds w (.slice a n c) l) {k : Nat} (hk : k < l.length) :
    ∃ b off, a = some ⟨b, off, none⟩ ∧ w.cell? ⟨b, off + k * 4, none⟩ = some (.int .i64 l[k].fr) ∧ w.cell? ⟨b, off + k * 4 + 1, none⟩ = some (.int .i64 l[k].to) ∧ w.cell? ⟨b, off + k * 4 + 2, none⟩ = some (.int .i64 l[k].at_) ∧ w.cell? ⟨b, off + k * 4 + 3, none⟩ = some (.string l[k].cls) := by
  obtain ⟨_, a', c', he, _, h⟩ := h
  simp only [Value.slice.injEq] at he
  obtain ⟨rfl, _, _⟩ := he
  rcases h with h | ⟨b, off, rfl, h⟩
  · have := hcells_len l
    rw [h] at this
    simp at this; omega
  · have key : ∀ j, j < 4 → ∀ u, l[k].cells[j]? = some u → w.cell? ⟨b, off + k * 4 + j, none⟩ = some u := fun j hj u hu => by
      rw [Nat.add_assoc]
      exact h _ u (by rw [hcells_at l k j hk hj]; exact hu)
    exact ⟨b, off, rfl, key 0 (by decide) _ rfl, key 1 (by decide) _ rfl, key 2 (by decide) _ rfl, key 3 (by decide) _ rfl⟩
end Go.Proofs.YtklebfkbildifaaDoor.hdls

/- Handlers of a method: what is wrong with them; class.Handlers. Condition: the texts can be held. -/
namespace Go.Proofs.YtklebfkbildifaaDoor.hdls
open Go.RowKit Go.Proofs.YtklebfkbildifaaDoor.lib Go.Proofs.YtklebfkbildifaaDoor.errs Go.Proofs.YtklebfkbildifaaDoor.names Go.Proofs.YtklebfkbildifaaDoor.descs Go.Proofs.YtklebfkbildifaaDoor.ins Go.Proofs.YtklebfkbildifaaDoor.flows

/-- it lies inside code of n instructions -/
def hdIn (n : Nat) (h : Hd) : Bool := decide (0 ≤ h.fr ∧ h.fr < h.to ∧ h.to ≤ (n : Int) ∧ 0 ≤ h.at_ ∧ h.at_ < (n : Int))
def hdBad (n : Nat) : List Hd → Int
  | [] => 0
  | h :: r => if hdIn n h = false then 2 else if nameOk h.cls.data.toList = false then 1 else hdBad n r
/-- what is wrong with handlers; 0: nothing -/
def hdFault (n : Nat) (l : List Hd) : Int := if hdBad n l ≠ 0 then hdBad n l else if 8 < l.length then 4 else 0
theorem hd_range {n : Nat} {l : List Hd} {k : Nat} (hk : k < l.length) (h : hdIn n l[k] = false) : hdBad n (l.drop k) = 2 := by rw [List.drop_eq_getElem_cons hk, hdBad, if_pos h]
theorem hd_name {n : Nat} {l : List Hd} {k : Nat} (hk : k < l.length) (h : hdIn n l[k] = true) (h2 : nameOk l[k].cls.data.toList = false) : hdBad n (l.drop k) = 1 := by rw [List.drop_eq_getElem_cons hk, hdBad, if_neg (by rw [h]; decide), if_pos h2]
theorem hd_step {n : Nat} {l : List Hd} {k : Nat} (hk : k < l.length) (h : hdIn n l[k] = true) (h2 : nameOk l[k].cls.data.toList = true) : hdBad n (l.drop k) = hdBad n (l.drop (k + 1)) := by rw [List.drop_eq_getElem_cons hk, hdBad, if_neg (by rw [h]; decide), if_neg (by rw [h2]; decide)]
theorem hd_end {n : Nat} {l : List Hd} {k : Nat} (hk : ¬ k < l.length) : hdBad n (l.drop k) = 0 := by rw [List.drop_eq_nil_of_le (by omega)]; rfl
end Go.Proofs.YtklebfkbildifaaDoor.hdls
