/- Handles: their types, plainly; a right type is a right method type, and short. No condition. -/
import Derived.Test.YtikkhjcocmihlaaDoorHand6
import Derived.Test.YtikkhjcocmihlaaDoorMtype6
set_option linter.unusedSimpArgs false
set_option linter.unusedVariables false
namespace Go.Proofs.YtikkhjcocmihlaaDoor.hands
open Go.RowKit Go.Proofs.YtikkhjcocmihlaaDoor.lib Go.Proofs.YtikkhjcocmihlaaDoor.errs Go.Proofs.YtikkhjcocmihlaaDoor.names Go.Proofs.YtikkhjcocmihlaaDoor.descs Go.Proofs.YtikkhjcocmihlaaDoor.mtypes

/-- a handle's type of its kind's parts and its subs' types: an error's number (0: none) and a text -/
def bindType (k : Int) (a : Int) (r s : List UInt8) : Int × List UInt8 :=
  match methodOf r, methodOf s with
  | some (ts, _), some (us, q) => if filledF ts us q a (if k = 5 then 0 else 1) ≠ 0 then (filledF ts us q a (if k = 5 then 0 else 1), []) else if k = 5 then dropOf r a else changeOf r a (us.headD [])
  | _, _ => (1, [])
def oneType (k : Int) (t : List UInt8) (a : Int) (ats : List Int) : List (Int × List UInt8) → Int × List UInt8
  | [] => (leafF k t a, leafS k t a)
  | [r] => if r.1 ≠ 0 then (r.1, []) else if k = 4 then putOf r.2 a t else permuteOf r.2 t ats
  | r :: s :: _ => if r.1 ≠ 0 then (r.1, []) else if s.1 ≠ 0 then (s.1, []) else bindType k a r.2 s.2
def nodeType (k : Int) (t : List UInt8) (a : Int) (ats : List Int) (rs : List (Int × List UInt8)) : Int × List UInt8 :=
  if isKind k = false then (1, []) else if (rs.length : Int) ≠ subsN k then (8, []) else oneType k t a ats rs
def types : Fo → List (Int × List UInt8)
  | .nil => []
  | .cons k t a _ _ ats subs rest => nodeType k t.data.toList a ats (types subs) :: types rest
def typeN (x : Nd) : Int × List UInt8 := nodeType x.k x.t.data.toList x.a x.ats (types x.subs)
theorem types_nodes : ∀ F : Fo, types F = (nodes F).map typeN
  | .nil => rfl
  | .cons k t a va vs ats subs rest => by
    show _ :: types rest = _ :: (nodes rest).map typeN
    rw [types_nodes rest]; rfl
theorem types_len (F : Fo) : (types F).length = (nodes F).length := by rw [types_nodes, List.length_map]

/-- a right type -/
def RightT (r : Int × List UInt8) : Prop := r.1 = 0 → ∃ ts g, methodOf r.2 = some (ts, g)
theorem short_of {M g : List UInt8} {ts : List (List UInt8)} (h : methodOf M = some (ts, g)) : M.length ≤ 200 := by
  obtain ⟨f1, f2⟩ := make_method h
  rw [← f2]
  exact (text_small f1).2.2.2.1
theorem RightT.short {r : Int × List UInt8} (h : RightT r) (h0 : r.1 = 0) : r.2.length ≤ 200 := by
  obtain ⟨ts, g, hm⟩ := h h0
  exact short_of hm
theorem right_err (z : Int) (hz : z ≠ 0) : RightT (z, []) := fun h => absurd h hz
theorem right_make {ts : List (List UInt8)} {g : List UInt8} (h : makeFault ts g = 0) : RightT (0, makeText ts g) := fun _ => ⟨ts, g, method_make h⟩

theorem right_drop (M : List UInt8) (n : Int) : RightT (dropOf M n) := by
  unfold dropOf
  cases hm : methodOf M with
  | none => exact right_err 1 (by decide)
  | some r =>
    obtain ⟨ts, g⟩ := r
    simp only
    split
    · exact right_err 2 (by decide)
    · exact right_make (fault_erase hm).1
theorem right_change (M : List UInt8) (n : Int) (t : List UInt8) : RightT (changeOf M n t) := by
  unfold changeOf
  cases hm : methodOf M with
  | none => exact right_err 1 (by decide)
  | some r =>
    obtain ⟨ts, g⟩ := r
    simp only
    split
    · exact right_err 2 (by decide)
    · split
      · rename_i h; exact right_make (fault_set hm h).1
      · exact right_err 1 (by decide)
theorem right_put (M : List UInt8) (n : Int) (t : List UInt8) : RightT (putOf M n t) := by
  unfold putOf
  cases hm : methodOf M with
  | none => exact right_err 1 (by decide)
  | some r =>
    obtain ⟨ts, g⟩ := r
    simp only
    split
    · exact right_err 2 (by decide)
    · rename_i hr
      split
      · rename_i h
        split
        · exact right_err 4 (by decide)
        · rename_i h5
          have := (fault_put hm h (i := n.toNat) (by omega)).2
          rw [if_neg h5] at this
          exact right_make this
      · exact right_err 1 (by decide)
theorem right_permute (M A : List UInt8) (zs : List Int) : RightT (permuteOf M A zs) := by
  unfold permuteOf
  cases hm : methodOf M with
  | none => exact right_err 1 (by decide)
  | some r =>
    obtain ⟨ts, g⟩ := r
    simp only
    cases hA : methodOf A with
    | none => exact right_err 1 (by decide)
    | some r2 =>
      obtain ⟨ms, g2⟩ := r2
      simp only
      split
      · split
        · exact right_make (fault_two hm hA)
        · rename_i h; exact right_err _ h
      · exact right_err 8 (by decide)
theorem isWd_ty {t : List UInt8} (h : isWd t = true) : t = [73] ∨ t = [74] := by unfold isWd at h; simpa using h
theorem leafT_make (k : Int) (t : List UInt8) (a : Int) : leafT k t a = makeText (if k = 1 then [] else if k = 2 ∨ a = 12 then [t] else [t, if 9 ≤ a ∧ a ≤ 11 then [73] else t]) t := by
  unfold leafT makeText
  by_cases h1 : k = 1
  · rw [if_pos h1, if_pos h1]; rfl
  rw [if_neg h1, if_neg h1]
  by_cases h2 : k = 2 ∨ a = 12
  · rw [if_pos h2, if_pos h2]; simp
  rw [if_neg h2, if_neg h2]
  simp
theorem leaf_word {k : Int} {t : List UInt8} {a : Int} (h : leafF k t a = 0) : isWd t = true := by
  unfold leafF at h
  cases hw : isWd t with
  | true => rfl
  | false => rw [if_pos (.inl hw)] at h; cases h
theorem leaf_make {k : Int} {t : List UInt8} {a : Int} (h : leafF k t a = 0) : makeFault (if k = 1 then [] else if k = 2 ∨ a = 12 then [t] else [t, if 9 ≤ a ∧ a ≤ 11 then [73] else t]) t = 0 := by
  rcases isWd_ty (leaf_word h) with rfl | rfl
  · split
    · decide
    split
    · decide
    split <;> decide
  · split
    · decide
    split
    · decide
    split <;> decide
theorem right_leaf (k : Int) (t : List UInt8) (a : Int) : RightT (leafF k t a, leafS k t a) := by
  intro h
  simp only at h
  unfold leafS
  simp only
  rw [if_pos h, leafT_make]
  exact ⟨_, _, method_make (leaf_make h)⟩
theorem right_node (k : Int) (t : List UInt8) (a : Int) (ats : List Int) (rs : List (Int × List UInt8)) : RightT (nodeType k t a ats rs) := by
  unfold nodeType
  split
  · exact right_err 1 (by decide)
  split
  · exact right_err 8 (by decide)
  match rs with
  | [] => exact right_leaf k t a
  | [r] =>
    unfold oneType
    simp only
    split
    · rename_i h; exact right_err _ h
    split
    · exact right_put _ _ _
    · exact right_permute _ _ _
  | r :: s :: q =>
    unfold oneType
    simp only
    split
    · rename_i h; exact right_err _ h
    split
    · rename_i h; exact right_err _ h
    unfold bindType
    split
    · rename_i ts g us q h1 h2
      by_cases hf : filledF ts us q a (if k = 5 then 0 else 1) = 0
      · rw [if_neg (by simpa using hf)]
        by_cases h5 : k = 5
        · rw [if_pos h5]; exact right_drop _ _
        · rw [if_neg h5]; exact right_change _ _ _
      · rw [if_pos hf]; exact right_err _ hf
    · exact right_err 1 (by decide)
theorem right_typeN (x : Nd) : RightT (typeN x) := right_node _ _ _ _ _

/-- its texts are not long -/
def ShortF : Fo → Prop
  | .nil => True
  | .cons _ t _ _ _ _ subs rest => t.size ≤ 10000000 ∧ ShortF subs ∧ ShortF rest
def ShortN (x : Nd) : Prop := x.t.size ≤ 10000000 ∧ ShortF x.subs
theorem short_at : ∀ {F : Fo} {x : Nd}, ShortF F → x ∈ nodes F → ShortN x
  | .nil, x, _, hx => by cases hx
  | .cons k t a va vs ats subs rest, x, h, hx => by
    rcases List.mem_cons.1 hx with rfl | hx
    · exact ⟨h.1, h.2.1⟩
    · exact short_at h.2.2 hx

theorem node_kind {k : Int} (t : List UInt8) (a : Int) (ats : List Int) (rs : List (Int × List UInt8)) (h : isKind k = false) : nodeType k t a ats rs = (1, []) := by unfold nodeType; rw [if_pos h]
theorem node_shape {k : Int} (t : List UInt8) (a : Int) (ats : List Int) {rs : List (Int × List UInt8)} (h : isKind k = true) (hn : ¬ (rs.length : Int) = subsN k) : nodeType k t a ats rs = (8, []) := by
  unfold nodeType; rw [if_neg (by rw [h]; decide), if_pos hn]
theorem node_one {k : Int} (t : List UInt8) (a : Int) (ats : List Int) {rs : List (Int × List UInt8)} (h : isKind k = true) (hn : (rs.length : Int) = subsN k) : nodeType k t a ats rs = oneType k t a ats rs := by
  unfold nodeType; rw [if_neg (by rw [h]; decide), if_neg (by simpa using hn)]
theorem subs_le (k : Int) : subsN k = 0 ∨ subsN k = 1 ∨ subsN k = 2 := by
  unfold subsN; split
  · exact .inr (.inl rfl)
  split
  · exact .inr (.inr rfl)
  · exact .inl rfl
/-- the first sub that is wrong tells what is wrong -/
theorem node_err {k : Int} (t : List UInt8) (a : Int) (ats : List Int) {l : List Nd} (h : isKind k = true) (hn : (l.length : Int) = subsN k) {j : Nat} (hj : j < l.length) (hq : ∀ q (hq : q < l.length), q < j → (typeN l[q]).1 = 0) {z : Int} (hz : (typeN l[j]).1 = z) (h0 : z ≠ 0) :
    nodeType k t a ats (l.map typeN) = (z, []) := by
  rw [node_one t a ats h (by rw [List.length_map]; exact hn)]
  have hk := subs_le k
  match l, hj with
  | [y], hj =>
    obtain rfl : j = 0 := by simpa using hj
    simp only [List.getElem_cons_zero] at hz
    simp only [List.map_cons, List.map_nil, oneType, hz]
    rw [if_pos h0]
  | [y, v], hj =>
    match j, hj with
    | 0, _ =>
      simp only [List.getElem_cons_zero] at hz
      simp only [List.map_cons, List.map_nil, oneType, hz]
      rw [if_pos h0]
    | 1, _ =>
      have := hq 0 (by simp) (by decide)
      simp only [List.getElem_cons_zero] at this
      simp only [List.getElem_cons_succ, List.getElem_cons_zero] at hz
      simp only [List.map_cons, List.map_nil, oneType, hz, this]
      rw [if_neg (by decide), if_pos h0]
    | j + 2, hj => simp at hj; omega
  | y :: v :: u :: r, hj =>
    simp only [List.length_cons] at hn; omega
theorem node_put {t : List UInt8} {a : Int} {ats : List Int} {y : Nd} (hy : (typeN y).1 = 0) : nodeType 4 t a ats ([y].map typeN) = putOf (typeN y).2 a t := by
  rw [node_one t a ats (by decide) (by rfl)]
  simp [oneType, hy]
theorem node_perm {t : List UInt8} {a : Int} {ats : List Int} {y : Nd} (hy : (typeN y).1 = 0) : nodeType 6 t a ats ([y].map typeN) = permuteOf (typeN y).2 t ats := by
  rw [node_one t a ats (by decide) (by rfl)]
  simp [oneType, hy]
theorem node_bind {k : Int} {t : List UInt8} {a : Int} {ats : List Int} {y z : Nd} (hk : k = 5 ∨ k = 7) (hy : (typeN y).1 = 0) (hz : (typeN z).1 = 0) : nodeType k t a ats ([y, z].map typeN) = bindType k a (typeN y).2 (typeN z).2 := by
  rw [node_one t a ats (by rcases hk with rfl | rfl <;> rfl) (by rcases hk with rfl | rfl <;> rfl)]
  simp only [List.map_cons, List.map_nil, oneType]
  rw [if_neg (by simpa using hy), if_neg (by simpa using hz)]
theorem bind_err {k a : Int} {r s : List UInt8} {ts us : List (List UInt8)} {g q : List UInt8} (hr : methodOf r = some (ts, g)) (hs : methodOf s = some (us, q)) {z : Int} (hf : filledF ts us q a (if k = 5 then 0 else 1) = z) (hz : z ≠ 0) : bindType k a r s = (z, []) := by
  unfold bindType
  rw [hr, hs]
  simp only
  rw [hf, if_pos hz]
theorem bind_drop {a : Int} {r s : List UInt8} {ts us : List (List UInt8)} {g q : List UInt8} (hr : methodOf r = some (ts, g)) (hs : methodOf s = some (us, q)) (hf : filledF ts us q a 0 = 0) : bindType 5 a r s = dropOf r a := by
  simp [bindType, hr, hs, hf]
theorem bind_change {a : Int} {r s u : List UInt8} {ts : List (List UInt8)} {g q : List UInt8} (hr : methodOf r = some (ts, g)) (hs : methodOf s = some ([u], q)) (hf : filledF ts [u] q a 1 = 0) : bindType 7 a r s = changeOf r a u := by
  simp [bindType, hr, hs, hf]
theorem filled_one {ts us : List (List UInt8)} {q : List UInt8} {a : Int} (h : filledF ts us q a 1 = 0) : ∃ u, us = [u] := by
  unfold filledF at h
  by_cases h1 : a < 0 ∨ (ts.length : Int) ≤ a
  · rw [if_pos h1] at h; cases h
  rw [if_neg h1] at h
  by_cases h2 : (us.length : Int) ≠ 1
  · rw [if_pos h2] at h; cases h
  exact List.length_eq_one_iff.1 (by omega)
end Go.Proofs.YtikkhjcocmihlaaDoor.hands
