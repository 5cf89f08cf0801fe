/- Types as texts: the plain laws of types one behind the other. No condition. -/
import Derived.Test.YtloeaihbnnnncaaGreatDoorDesc3
import Derived.Test.YtloeaihbnnnncaaGreatDoorDesc6S
import Derived.Test.YtloeaihbnnnncaaGreatDoorStrs
namespace Go.Proofs.YtloeaihbnnnncaaGreatDoor.descs
open Go.RowKit Go.Proofs.YtloeaihbnnnncaaGreatDoor.lib Go.Proofs.YtloeaihbnnnncaaGreatDoor.errs Go.Proofs.YtloeaihbnnnncaaGreatDoor.names

/-- a type without its opening brackets -/
def Core (t : List UInt8) : Prop := t = [73] ∨ t = [74] ∨ ∃ nm, t = 76 :: (nm ++ [59]) ∧ nameOk nm = true

theorem dw {p r : List UInt8} {c : UInt8} (hp : ∀ y ∈ p, y = 91) (hc : c ≠ 91) : (p ++ c :: r).dropWhile (· == (91 : UInt8)) = c :: r := by
  induction p with
  | nil => rw [List.nil_append, List.dropWhile_cons, if_neg (by simpa using hc)]
  | cons x p ih =>
    have hx := hp x (List.mem_cons_self ..)
    rw [List.cons_append, List.dropWhile_cons, if_pos (by simpa using hx)]
    exact ih (fun y hy => hp y (List.mem_cons_of_mem _ hy))

theorem nameOk_no59 {nm : List UInt8} (h : nameOk nm = true) : ∀ y ∈ nm, y ≠ 59 := by
  simp only [nameOk, Bool.and_eq_true] at h
  intro y hy he
  have := List.all_eq_true.1 h.1.2 y hy
  subst he
  revert this; decide

theorem core_tail {p t : List UInt8} (hp : ∀ y ∈ p, y = 91) (h3 : p.length ≤ 3) (ht : Core t) (r : List UInt8) : tyLen (p ++ (t ++ r)) = p.length + t.length := by
  have hlen : ∀ (c : UInt8) (r' : List UInt8), (p ++ c :: r').length - (c :: r').length = p.length := fun c r' => by rw [List.length_append]; omega
  rcases ht with rfl | rfl | ⟨nm, rfl, hn⟩
  · have h := dw (r := r) hp (show (73 : UInt8) ≠ 91 by decide)
    show tyLen (p ++ 73 :: r) = p.length + 1
    rw [ty_word h (by rw [hlen]; omega) (.inl rfl), hlen]
  · have h := dw (r := r) hp (show (74 : UInt8) ≠ 91 by decide)
    show tyLen (p ++ 74 :: r) = p.length + 1
    rw [ty_word h (by rw [hlen]; omega) (.inr rfl), hlen]
  · have h := dw (r := nm ++ [59] ++ r) hp (show (76 : UInt8) ≠ 91 by decide)
    show tyLen (p ++ 76 :: (nm ++ [59] ++ r)) = p.length + (76 :: (nm ++ [59])).length
    have hix : Lib.indexByte (76 :: (nm ++ [59] ++ r)) 59 = ((nm.length + 1 : Nat) : Int) := by
      refine index_first (fun j hj => ?_) ?_
      · cases j with
        | zero => simp
        | succ j =>
          have hj' : j < nm.length := by omega
          rw [List.getElem?_cons_succ, List.append_assoc, List.getElem?_append_left hj', List.getElem?_eq_getElem hj']
          intro hh
          exact nameOk_no59 hn _ (List.getElem_mem hj') (Option.some.inj hh)
      · rw [List.getElem?_cons_succ, List.append_assoc, List.getElem?_append_right (Nat.le_refl _), Nat.sub_self]; rfl
    rw [ty_class h (by rw [hlen]; omega) hix, hlen]
    have hx : ((76 :: (nm ++ [59] ++ r) : List UInt8).take (nm.length + 1)).drop 1 = nm := by
      rw [List.take_succ_cons, List.drop_succ_cons, List.drop_zero, List.append_assoc, List.take_left']
      rfl
    rw [hx, if_pos hn]
    simp only [List.length_cons, List.length_append, List.length_nil]

theorem takeW {l : List UInt8} : ∀ y ∈ l.takeWhile (· == (91 : UInt8)), y = 91 := by
  intro y hy
  have := List.all_eq_true.1 (List.all_takeWhile (l := l) (p := (· == (91 : UInt8)))) y hy
  simpa using this

theorem parts {l : List UInt8} (h : tyLen l ≠ 0) : ∃ p t r, l = p ++ (t ++ r) ∧ (∀ y ∈ p, y = 91) ∧ p.length ≤ 3 ∧ Core t := by
  have hsplit := List.takeWhile_append_dropWhile (p := (· == (91 : UInt8))) (l := l)
  have hl := congrArg List.length hsplit
  rw [List.length_append] at hl
  by_cases h3 : 3 < l.length - (l.dropWhile (· == 91)).length
  · exact absurd (ty_deep h3) h
  · cases hr : l.dropWhile (· == 91) with
    | nil => exact absurd (ty_empty hr) h
    | cons c r =>
      rw [hr] at h3 hsplit hl
      have hp3 : (l.takeWhile (· == (91 : UInt8))).length ≤ 3 := by omega
      by_cases hc : c = 73
      · subst hc; exact ⟨_, [73], r, hsplit.symm, takeW, hp3, .inl rfl⟩
      · by_cases hc2 : c = 74
        · subst hc2; exact ⟨_, [74], r, hsplit.symm, takeW, hp3, .inr (.inl rfl)⟩
        · by_cases hd : c = 76
          · subst hd
            have hge := Lib.indexByte_ge (76 :: r) 59
            by_cases hi : Lib.indexByte (76 :: r) 59 = -1
            · exact absurd (ty_open hr hi) h
            · obtain ⟨o, ho⟩ : ∃ o : Nat, Lib.indexByte (76 :: r) 59 = (o : Int) := ⟨(Lib.indexByte (76 :: r) 59).toNat, by omega⟩
              have h59 := (Lib.indexByte_some ho).1
              rw [ty_class hr h3 ho] at h
              cases hn : nameOk (((76 :: r).take o).drop 1) with
              | false => rw [hn] at h; exact absurd rfl h
              | true =>
                cases o with
                | zero => simp at h59
                | succ o =>
                  rw [List.take_succ_cons, List.drop_succ_cons, List.drop_zero] at hn
                  rw [List.getElem?_cons_succ] at h59
                  obtain ⟨ho1, ho2⟩ := List.getElem?_eq_some_iff.1 h59
                  refine ⟨_, 76 :: (r.take o ++ [59]), r.drop (o + 1), ?_, takeW, hp3, .inr (.inr ⟨r.take o, rfl, hn⟩)⟩
                  have hr2 : r = r.take o ++ ([59] ++ r.drop (o + 1)) := by
                    have := List.drop_eq_getElem_cons ho1
                    rw [ho2] at this
                    conv => lhs; rw [← List.take_append_drop o r, this]
                    rfl
                  conv => lhs; rw [← hsplit, hr2]
                  simp
          · exact absurd (ty_other hr (by rintro (h1 | h1); exact hc h1; exact hc2 h1) hd) h

theorem ty_append {x : List UInt8} (h : isTy x = true) (r : List UInt8) : tyLen (x ++ r) = x.length ∧ x.length ≤ 25 ∧ x.length ≠ 0 ∧ x.head? ≠ some 41 := by
  simp only [isTy, decide_eq_true_eq] at h
  obtain ⟨p, t, r0, rfl, hp, h3, ht⟩ := parts h.1
  have h1 := core_tail hp h3 ht r0
  have h2 := h.2
  rw [h1, List.length_append, List.length_append] at h2
  have hr0 : r0 = [] := List.eq_nil_of_length_eq_zero (by omega)
  subst hr0
  have h4 := core_tail hp h3 ht r
  have htl : 1 ≤ t.length ∧ t.length ≤ 22 ∧ t.head? ≠ some 41 := by
    rcases ht with rfl | rfl | ⟨nm, rfl, hn⟩
    · exact ⟨by decide, by decide, by decide⟩
    · exact ⟨by decide, by decide, by decide⟩
    · simp only [nameOk, Bool.and_eq_true, decide_eq_true_eq] at hn
      simp only [List.length_cons, List.length_append, List.length_nil, List.head?_cons]
      exact ⟨by omega, by omega, by decide⟩
  rw [List.append_nil]
  refine ⟨by rw [List.append_assoc, h4, List.length_append], by rw [List.length_append]; omega, by rw [List.length_append]; omega, ?_⟩
  cases p with
  | nil => rw [List.nil_append]; exact htl.2.2
  | cons b p => have := hp b (List.mem_cons_self ..); subst this; simp

theorem ty_take {l : List UInt8} (h : tyLen l ≠ 0) : isTy (l.take (tyLen l)) = true := by
  obtain ⟨p, t, r, rfl, hp, h3, ht⟩ := parts h
  have h1 := core_tail hp h3 ht r
  have h2 := core_tail hp h3 ht []
  have hx : (p ++ (t ++ r)).take (p.length + t.length) = p ++ (t ++ []) := by
    rw [List.append_nil, ← List.append_assoc, List.take_left' (by rw [List.length_append])]
  rw [h1] at h ⊢
  rw [hx]
  simp only [isTy, decide_eq_true_eq]
  rw [h2]
  exact ⟨h, by simp⟩

/-- what is wrong with parts: 0 nothing, 1 the form, 4 too many -/
def makeFault (xs : List (List UInt8)) (g : List UInt8) : Int := if 5 < xs.length then 4 else if xs.all isTy = true ∧ (g = [86] ∨ isTy g = true) then 0 else 1
def makeText (xs : List (List UInt8)) (g : List UInt8) : List UInt8 := 40 :: (xs.flatten ++ 41 :: g)

theorem scan_flatten : ∀ (xs : List (List UInt8)) (r : List UInt8), xs.all isTy = true → scan (xs.flatten ++ 41 :: r) = (xs, 41 :: r)
  | [], r, _ => scan_stop (.inl rfl)
  | x :: xs, r, h => by
    simp only [List.all_cons, Bool.and_eq_true] at h
    obtain ⟨h1, _, h2, h3⟩ := ty_append h.1 (xs.flatten ++ 41 :: r)
    have hh : (x ++ (xs.flatten ++ 41 :: r)).head? = x.head? := by
      cases x with
      | nil => exact absurd rfl h2
      | cons b x => rfl
    rw [List.flatten_cons, List.append_assoc, scan_step (by rw [hh]; exact h3) (by rw [h1]; exact h2), h1, List.take_left' rfl, List.drop_left' rfl, scan_flatten xs r h.2]

theorem method_make {xs : List (List UInt8)} {g : List UInt8} (h : makeFault xs g = 0) : methodOf (makeText xs g) = some (xs, g) := by
  unfold makeFault at h
  by_cases h5 : 5 < xs.length
  · rw [if_pos h5] at h; cases h
  · rw [if_neg h5] at h
    by_cases h2 : xs.all isTy = true ∧ (g = [86] ∨ isTy g = true)
    · simp only [makeText, methodOf, scan_flatten xs g h2.1, List.head?_cons, List.drop_succ_cons, List.drop_zero]
      rw [if_pos ⟨trivial, trivial, by omega, h2.2⟩]
    · rw [if_neg h2] at h; cases h

theorem scan_back (l : List UInt8) : l = (scan l).1.flatten ++ (scan l).2 ∧ (scan l).1.all isTy = true := by
  by_cases h : l.head? = some 41 ∨ tyLen l = 0
  · rw [scan_stop h]; simp
  · have h1 : ¬ l.head? = some 41 := fun e => h (.inl e)
    have h2 : tyLen l ≠ 0 := fun e => h (.inr e)
    have hlt : (l.drop (tyLen l)).length < l.length := by have := tyLen_le l; rw [List.length_drop]; omega
    obtain ⟨i1, i2⟩ := scan_back (l.drop (tyLen l))
    rw [scan_step h1 h2]
    refine ⟨?_, by rw [List.all_cons, ty_take h2, i2]; rfl⟩
    rw [List.flatten_cons, List.append_assoc, ← i1, List.take_append_drop]
termination_by l.length

theorem make_method {S g : List UInt8} {ts : List (List UInt8)} (h : methodOf S = some (ts, g)) : makeFault ts g = 0 ∧ makeText ts g = S := by
  cases S with
  | nil => cases h
  | cons c l =>
    simp only [methodOf] at h
    split at h
    · rename_i hc
      obtain ⟨rfl, h41, h5, hg⟩ := hc
      simp only [Option.some.injEq, Prod.mk.injEq] at h
      obtain ⟨rfl, rfl⟩ := h
      obtain ⟨i1, i2⟩ := scan_back l
      refine ⟨by unfold makeFault; rw [if_neg (by omega), if_pos ⟨i2, hg⟩], ?_⟩
      unfold makeText
      congr 1
      conv => rhs; rw [i1]
      congr 1
      cases hr : (scan l).2 with
      | nil => rw [hr] at h41; cases h41
      | cons b r => rw [hr] at h41; cases h41; rfl
    · cases h

theorem flatten_small : ∀ {xs : List (List UInt8)}, xs.all isTy = true → xs.flatten.length ≤ 25 * xs.length
  | [], _ => by simp
  | x :: xs, h => by
    simp only [List.all_cons, Bool.and_eq_true] at h
    have h1 := flatten_small h.2
    have h2 := (ty_append h.1 []).2.1
    rw [List.flatten_cons, List.length_append, List.length_cons]; omega
theorem text_small {xs : List (List UInt8)} {g : List UInt8} (h : makeFault xs g = 0) : xs.length ≤ 5 ∧ xs.all isTy = true ∧ g.length ≤ 25 ∧ (makeText xs g).length ≤ 200 ∧ (g = [86] ∨ isTy g = true) := by
  unfold makeFault at h
  by_cases h5 : 5 < xs.length
  · rw [if_pos h5] at h; cases h
  · rw [if_neg h5] at h
    by_cases h2 : xs.all isTy = true ∧ (g = [86] ∨ isTy g = true)
    · have h3 := flatten_small h2.1
      have h4 : g.length ≤ 25 := by
        rcases h2.2 with rfl | hg
        · decide
        · exact (ty_append hg []).2.1
      refine ⟨by omega, h2.1, h4, ?_, h2.2⟩
      simp only [makeText, List.length_cons, List.length_append]; omega
    · rw [if_neg h2] at h; cases h

end Go.Proofs.YtloeaihbnnnncaaGreatDoor.descs

/- Types as texts: what is wrong with parts; strings.Join. No condition. -/
namespace Go.Proofs.YtloeaihbnnnncaaGreatDoor.descs
open Go.RowKit Go.Proofs.YtloeaihbnnnncaaGreatDoor.lib Go.Proofs.YtloeaihbnnnncaaGreatDoor.errs Go.Proofs.YtloeaihbnnnncaaGreatDoor.names Go.Proofs.YtloeaihbnnnncaaGreatDoor.texts

/-- what the lists read as -/
def raw (xs : List ByteArray) : List (List UInt8) := xs.map (·.data.toList)

theorem raw_len (xs : List ByteArray) : (raw xs).length = xs.length := List.length_map _
theorem fault_many {xs : List ByteArray} {g : List UInt8} (h : 5 < xs.length) : makeFault (raw xs) g = 4 := by unfold makeFault; rw [if_pos (by rw [raw_len]; exact h)]
theorem fault_bad {xs : List ByteArray} {g : List UInt8} {k : Nat} (h : ¬ 5 < xs.length) (hk : k < xs.length) (hb : isTy xs[k].data.toList = false) : makeFault (raw xs) g = 1 := by
  unfold makeFault
  rw [if_neg (by rw [raw_len]; exact h), if_neg]
  rintro ⟨h1, _⟩
  have := List.all_eq_true.1 h1 xs[k].data.toList (by unfold raw; exact List.mem_map_of_mem (List.getElem_mem hk))
  rw [hb] at this; cases this
theorem fault_gives {xs : List ByteArray} {g : List UInt8} (h : ¬ 5 < xs.length) (hg : ¬ g = [86]) (hb : isTy g = false) : makeFault (raw xs) g = 1 := by
  unfold makeFault
  rw [if_neg (by rw [raw_len]; exact h), if_neg]
  rintro ⟨_, h1 | h1⟩
  · exact hg h1
  · rw [hb] at h1; cases h1
theorem fault_none {xs : List ByteArray} {g : List UInt8} (h : ¬ 5 < xs.length) (h1 : (raw xs).all isTy = true) (hg : g = [86] ∨ isTy g = true) : makeFault (raw xs) g = 0 := by
  unfold makeFault
  rw [if_neg (by rw [raw_len]; exact h), if_pos ⟨h1, hg⟩]

theorem all_step {xs : List ByteArray} {k : Nat} (h : (raw (xs.take k)).all isTy = true) (hk : k < xs.length) (hb : isTy xs[k].data.toList = true) : (raw (xs.take (k + 1))).all isTy = true := by
  rw [List.take_add_one, List.getElem?_eq_getElem hk]
  unfold raw at h ⊢
  simp only [List.map_append, List.all_append, h, Option.toList_some, List.map_cons, List.map_nil, List.all_cons, hb, List.all_nil, Bool.and_self]

/-- Make's answer -/
def MakeBy (w : World) (xs : List (List UInt8)) (g : List UInt8) (e : Ending) (w' : World) : Prop :=
  e = .returned (.tuple #[if makeFault xs g = 0 then .string (bs (makeText xs g)) else .string { data := #[] }, errVal (makeFault xs g)]) ∧ Below w.heap.size w w'
theorem makeBy_no {w w' : World} {xs : List (List UInt8)} {g : List UInt8} {z : Int} (h : makeFault xs g = z) (hz : z ≠ 0) (hb : Below w.heap.size w w') : MakeBy w xs g (.returned (.tuple #[.string { data := #[] }, .iface 58 (.int .i64 z)])) w' := by
  refine ⟨?_, hb⟩
  rw [h, if_neg hz]
  unfold errVal
  rw [if_neg hz]
theorem makeBy_yes {w w' : World} {xs : List (List UInt8)} {g : List UInt8} {t : ByteArray} (h : makeFault xs g = 0) (ht : t.data.toList = makeText xs g) (hb : Below w.heap.size w w') : MakeBy w xs g (.returned (.tuple #[.string t, .nilIface])) w' := by
  refine ⟨?_, hb⟩
  rw [h, if_pos rfl, ← bs_of ht]
  rfl

theorem join_nil (xs : List ByteArray) : Lib.join (xs.map (·.data.toList)) [] = (raw xs).flatten := by
  unfold Lib.join raw
  generalize xs.map (·.data.toList) = ys
  induction ys with
  | nil => rfl
  | cons y ys ih =>
    cases ys with
    | nil => simp [List.intercalate, List.intersperse]
    | cons z zs => simp only [List.intercalate, List.intersperse, List.flatten_cons] at ih ⊢; rw [ih]; simp

theorem join_any (va : Value) (xs : List ByteArray) (w : World) (ha : Sl w va xs.length 1 (xs.map .string)) (hn : xs.length ≤ 5) (hl : (raw xs).flatten.length ≤ 125) :
    Calls Tryz.prog 148 #[va, .string { data := #[] }] w fun e w' => e = .returned (.string (bs (raw xs).flatten)) ∧ Below w.heap.size w w' := by
  obtain ⟨hlen, a, c, rfl, hc, h⟩ := ha
  rcases h with h | ⟨b, off, rfl, h⟩
  · have hx : xs = [] := by simpa using h
    subst hx
    refine (Tryz.strings_Join_none a c { data := #[] } w).mono ?_
    rintro e w' ⟨rfl, rfl⟩
    exact ⟨rfl, Below.refl _ _⟩
  · by_cases h0 : xs = []
    · subst h0
      refine (Tryz.strings_Join_none _ c { data := #[] } w).mono ?_
      rintro e w' ⟨rfl, rfl⟩
      exact ⟨rfl, Below.refl _ _⟩
    · have hcells : ∀ (j : Nat) x, xs[j]? = some x → w.cell? ⟨b, off + j, none⟩ = some (.string x) := fun j x hx => h j _ (by rw [List.getElem?_map, hx]; rfl)
      have hb : b < w.heap.size := by
        have := List.length_pos_iff.2 h0
        exact World.block_lt_of_cell? w _ (hcells 0 xs[0] (List.getElem?_eq_getElem this))
      refine (Tryz.strings_Join b off c xs { data := #[] } w hcells hb (by omega) hc ?_).mono ?_
      · show (Lib.join (xs.map (·.data.toList)) []).length ≤ _
        rw [join_nil]; omega
      · rintro e w' ⟨rfl, hb⟩
        refine ⟨?_, hb⟩
        show Ending.returned (.string ⟨(Lib.join (xs.map (·.data.toList)) []).toArray⟩) = _
        rw [join_nil]; rfl

end Go.Proofs.YtloeaihbnnnncaaGreatDoor.descs

/- Types as texts: desc.Make and the reference's MethodText. No condition. -/
namespace Go.Proofs.YtloeaihbnnnncaaGreatDoor.descs
open Go.RowKit Go.Proofs.YtloeaihbnnnncaaGreatDoor.lib Go.Proofs.YtloeaihbnnnncaaGreatDoor.errs Go.Proofs.YtloeaihbnnnncaaGreatDoor.names Go.Proofs.YtloeaihbnnnncaaGreatDoor.texts

theorem glue (j g : ByteArray) (xs : List (List UInt8)) (hj : j.data.toList = xs.flatten) : ((({ data := #[40] } : ByteArray) ++ j ++ { data := #[41] }) ++ g).data.toList = makeText xs g.data.toList := by
  simp only [ByteArray.data_append, Array.toList_append, hj]
  unfold makeText
  simp

theorem raw_take {xs : List ByteArray} {k : Nat} (hk : k < xs.length) : (raw (xs.take (k + 1))).flatten = (raw (xs.take k)).flatten ++ xs[k].data.toList := by
  rw [List.take_add_one, List.getElem?_eq_getElem hk]
  unfold raw
  rw [List.map_append, List.flatten_append]
  simp only [Option.toList_some, List.map_cons, List.map_nil, List.flatten_cons, List.flatten_nil, List.append_nil]
theorem raw_take_le (xs : List ByteArray) (k : Nat) : (raw (xs.take k)).flatten.length ≤ (raw xs).flatten.length := by
  have : (raw xs).flatten = (raw (xs.take k)).flatten ++ (raw (xs.drop k)).flatten := by
    conv => lhs; rw [← List.take_append_drop k xs]
    unfold raw; rw [List.map_append, List.flatten_append]
  rw [this, List.length_append]; omega

theorem raw_sv (xs : List ByteArray) : (raw xs).map sv = xs.map .string := by unfold raw; rw [List.map_map]; rfl
theorem raw_bs (ts : List (List UInt8)) : raw (ts.map bs) = ts := by
  unfold raw; rw [List.map_map]
  conv => rhs; rw [← List.map_id ts]
  rfl
theorem fault_cases (xs : List (List UInt8)) (g : List UInt8) : makeFault xs g = 0 ∨ makeFault xs g = 1 ∨ makeFault xs g = 4 := by
  unfold makeFault; split
  · exact .inr (.inr rfl)
  · split
    · exact .inl rfl
    · exact .inr (.inl rfl)
theorem makeBy_bad {w w' : World} {xs : List (List UInt8)} {g : List UInt8} {e : Ending} {z : Int} (h : MakeBy w xs g e w') (hz : makeFault xs g = z) (h0 : z ≠ 0) : e = .returned (.tuple #[.string { data := #[] }, .iface 58 (.int .i64 z)]) ∧ Below w.heap.size w w' := by
  obtain ⟨h1, h2⟩ := h
  rw [hz, if_neg h0] at h1
  unfold errVal at h1
  rw [if_neg h0] at h1
  exact ⟨h1, h2⟩
theorem makeBy_good {w w' : World} {xs : List (List UInt8)} {g : List UInt8} {e : Ending} (h : MakeBy w xs g e w') (hz : makeFault xs g = 0) : e = .returned (.tuple #[.string (bs (makeText xs g)), .nilIface]) ∧ Below w.heap.size w w' := by
  obtain ⟨h1, h2⟩ := h
  rw [hz, if_pos rfl] at h1
  exact ⟨h1, h2⟩

end Go.Proofs.YtloeaihbnnnncaaGreatDoor.descs
