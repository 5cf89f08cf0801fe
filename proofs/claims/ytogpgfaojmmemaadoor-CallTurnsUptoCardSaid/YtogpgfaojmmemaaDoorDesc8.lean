/- Types as texts: what is wrong with parts; strings.Join. No condition. -/
import Derived.Test.YtogpgfaojmmemaaDoorDesc6S
import Derived.Test.YtogpgfaojmmemaaDoorStrs
import Derived.Test.YtogpgfaojmmemaaDoorDesc7
namespace Go.Proofs.YtogpgfaojmmemaaDoor.descs
open Go.RowKit Go.Proofs.YtogpgfaojmmemaaDoor.lib Go.Proofs.YtogpgfaojmmemaaDoor.errs Go.Proofs.YtogpgfaojmmemaaDoor.names Go.Proofs.YtogpgfaojmmemaaDoor.texts

/-- what the lists read as -/
def raw (xs : List ByteArray) : List (List UInt8) := xs.map (·.data.toList)

theorem raw_len (xs : List ByteArray) : (raw xs).length = xs.length := List.length_map _
theorem fault_many {xs : List ByteArray} {g : List UInt8} (h : 5 < xs.length) : makeFault (raw xs) g = 4 := by unfold makeFault; rw [if_pos (by rw [raw_len]; exact h)]
theorem fault_bad {xs : List ByteArray} {g : List UInt8} {k : Nat} (h : ¬ 5 < xs.length) (hk : k < xs.length) (hb : isTy xs[k].data.toList = false) : makeFault (raw xs) g = 1 := by
  unfold makeFault
  rw [if_neg (by rw [raw_len]; exact h), if_neg]
  rintro ⟨h1, _⟩
  have := List.all_eq_true.1 h1 xs[k].data.toList (by unfold raw; exact List.mem_map_of_mem (List.getElem_mem hk))
  rw [hb] at this; cases this
theorem fault_gives {xs : List ByteArray} {g : List UInt8} (h : ¬ 5 < xs.length) (hg : ¬ g = [86]) (hb : isTy g = false) : makeFault (raw xs) g = 1 := by
  unfold makeFault
  rw [if_neg (by rw [raw_len]; exact h), if_neg]
  rintro ⟨_, h1 | h1⟩
  · exact hg h1
  · rw [hb] at h1; cases h1
theorem fault_none {xs : List ByteArray} {g : List UInt8} (h : ¬ 5 < xs.length) (h1 : (raw xs).all isTy = true) (hg : g = [86] ∨ isTy g = true) : makeFault (raw xs) g = 0 := by
  unfold makeFault
  rw [if_neg (by rw [raw_len]; exact h), if_pos ⟨h1, hg⟩]

theorem all_step {xs : List ByteArray} {k : Nat} (h : (raw (xs.take k)).all isTy = true) (hk : k < xs.length) (hb : isTy xs[k].data.toList = true) : (raw (xs.take (k + 1))).all isTy = true := by
  rw [List.take_add_one, List.getElem?_eq_getElem hk]
  unfold raw at h ⊢
  simp only [List.map_append, List.all_append, h, Option.toList_some, List.map_cons, List.map_nil, List.all_cons, hb, List.all_nil, Bool.and_self]

/-- Make's answer -/
def MakeBy (w : World) (xs : List (List UInt8)) (g : List UInt8) (e : Ending) (w' : World) : Prop :=
  e = .returned (.tuple #[if makeFault xs g = 0 then .string (bs (makeText xs g)) else .string { data := #[] }, errVal (makeFault xs g)]) ∧ Below w.heap.size w w'
theorem makeBy_no {w w' : World} {xs : List (List UInt8)} {g : List UInt8} {z : Int} (h : makeFault xs g = z) (hz : z ≠ 0) (hb : Below w.heap.size w w') : MakeBy w xs g (.returned (.tuple #[.string { data := #[] }, .iface 41 (.int .i64 z)])) w' := by
  refine ⟨?_, hb⟩
  rw [h, if_neg hz]
  unfold errVal
  rw [if_neg hz]
theorem makeBy_yes {w w' : World} {xs : List (List UInt8)} {g : List UInt8} {t : ByteArray} (h : makeFault xs g = 0) (ht : t.data.toList = makeText xs g) (hb : Below w.heap.size w w') : MakeBy w xs g (.returned (.tuple #[.string t, .nilIface])) w' := by
  refine ⟨?_, hb⟩
  rw [h, if_pos rfl, ← bs_of ht]
  rfl

theorem join_nil (xs : List ByteArray) : Lib.join (xs.map (·.data.toList)) [] = (raw xs).flatten := by
  unfold Lib.join raw
  generalize xs.map (·.data.toList) = ys
  induction ys with
  | nil => rfl
  | cons y ys ih =>
    cases ys with
    | nil => simp [List.intercalate, List.intersperse]
    | cons z zs => simp only [List.intercalate, List.intersperse, List.flatten_cons] at ih ⊢; rw [ih]; simp

theorem join_any (va : Value) (xs : List ByteArray) (w : World) (ha : Sl w va xs.length 1 (xs.map .string)) (hn : xs.length ≤ 5) (hl : (raw xs).flatten.length ≤ 125) :
    Calls Tryd.prog 110 #[va, .string { data := #[] }] w fun e w' => e = .returned (.string (bs (raw xs).flatten)) ∧ Below w.heap.size w w' := by
  obtain ⟨hlen, a, c, rfl, hc, h⟩ := ha
  rcases h with h | ⟨b, off, rfl, h⟩
  · have hx : xs = [] := by simpa using h
    subst hx
    refine (Tryd.strings_Join_none a c { data := #[] } w).mono ?_
    rintro e w' ⟨rfl, rfl⟩
    exact ⟨rfl, Below.refl _ _⟩
  · by_cases h0 : xs = []
    · subst h0
      refine (Tryd.strings_Join_none _ c { data := #[] } w).mono ?_
      rintro e w' ⟨rfl, rfl⟩
      exact ⟨rfl, Below.refl _ _⟩
    · have hcells : ∀ (j : Nat) x, xs[j]? = some x → w.cell? ⟨b, off + j, none⟩ = some (.string x) := fun j x hx => h j _ (by rw [List.getElem?_map, hx]; rfl)
      have hb : b < w.heap.size := by
        have := List.length_pos_iff.2 h0
        exact World.block_lt_of_cell? w _ (hcells 0 xs[0] (List.getElem?_eq_getElem this))
      refine (Tryd.strings_Join b off c xs { data := #[] } w hcells hb (by omega) hc ?_).mono ?_
      · show (Lib.join (xs.map (·.data.toList)) []).length ≤ _
        rw [join_nil]; omega
      · rintro e w' ⟨rfl, hb⟩
        refine ⟨?_, hb⟩
        show Ending.returned (.string ⟨(Lib.join (xs.map (·.data.toList)) []).toArray⟩) = _
        rw [join_nil]; rfl

end Go.Proofs.YtogpgfaojmmemaaDoor.descs
