/- Types as texts: the reference's MethodOf; two lists of texts. Condition: the text is not long. -/
import Derived.Test.YtnhhaefoilhlhaaGreatDoorDesc3
namespace Go.Proofs.YtnhhaefoilhlhaaGreatDoor.descs
open Go.RowKit Go.Proofs.YtnhhaefoilhlhaaGreatDoor.lib Go.Proofs.YtnhhaefoilhlhaaGreatDoor.errs Go.Proofs.YtnhhaefoilhlhaaGreatDoor.names

/-- MethodOf's answer -/
def MethodSaid (w : World) (S : List UInt8) (e : Ending) (w' : World) : Prop :=
  match methodOf S with
  | some (ts, g) => ∃ v, e = .returned (.tuple #[v, .string (bs g), .bool true]) ∧ Out w w' 9 1 v ts.length (ts.map sv)
  | none => e = .returned (.tuple #[.slice none 0 0, .string { data := #[] }, .bool false]) ∧ Below w.heap.size w w'
theorem methodSaid_no {w w' : World} {S : List UInt8} (h : methodOf S = none) (hb : Below w.heap.size w w') : MethodSaid w S (.returned (.tuple #[.slice none 0 0, .string { data := #[] }, .bool false])) w' := by
  unfold MethodSaid; rw [h]; exact ⟨rfl, hb⟩
theorem methodSaid_yes {w w' : World} {S g : List UInt8} {ts : List (List UInt8)} {v : Value} (h : methodOf S = some (ts, g)) (ho : Out w w' 9 1 v ts.length (ts.map sv)) : MethodSaid w S (.returned (.tuple #[v, .string (bs g), .bool true])) w' := by
  unfold MethodSaid; rw [h]; exact ⟨v, rfl, ho⟩

theorem drop_extract (s : ByteArray) (k n : Nat) : (bs (s.data.toList.drop k)).extract 0 n = s.extract k (k + n) := by
  rw [extract_bs, extract_bs, bs_data, List.drop_zero]
  congr 1
  rw [List.drop_take]; congr 1; omega
theorem drop_rest (s : ByteArray) (k n : Nat) : (bs (s.data.toList.drop k)).extract n (bs (s.data.toList.drop k)).size = bs (s.data.toList.drop (k + n)) := by
  rw [extract_bs, bs_data, bs_size, List.take_length, List.drop_drop]

theorem MetRel.go {w wr w' : World} {l : List UInt8} {s : ByteArray} {k : Nat} {v v' : Value} {ts : List (List UInt8)} (h : MetRel w wr l (bs (s.data.toList.drop k)) v ts) (h1 : ¬ (s.data.toList.drop k).head? = some 41) (h2 : tyLen (s.data.toList.drop k) ≠ 0)
    (ho : Out w w' 9 1 v' (ts.length + 1) (ts.map sv ++ [.string (s.extract k (k + tyLen (s.data.toList.drop k)))])) : MetRel w w' l (bs (s.data.toList.drop (k + tyLen (s.data.toList.drop k)))) v' (ts ++ [(s.data.toList.drop k).take (tyLen (s.data.toList.drop k))]) := by
  have := h.step (w' := w') (v' := v') (by rw [bs_data]; exact h1) (by rw [bs_data]; exact h2) (by rw [bs_data, drop_extract]; exact ho)
  rw [bs_data, drop_rest] at this
  exact this

end Go.Proofs.YtnhhaefoilhlhaaGreatDoor.descs
