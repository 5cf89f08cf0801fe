/- An instruction's text read again gives the instruction; a text that reads as an instruction is its text. No condition of the world. -/
import Derived.Test.YtcbefaaipggakaaDoorBack1
set_option linter.unusedSimpArgs false
set_option linter.unusedVariables false
namespace Go.Proofs.YtcbefaaipggakaaDoor.txts
open Go.RowKit Go.Proofs.YtcbefaaipggakaaDoor.lib Go.Proofs.YtcbefaaipggakaaDoor.errs Go.Proofs.YtcbefaaipggakaaDoor.names Go.Proofs.YtcbefaaipggakaaDoor.descs Go.Proofs.YtcbefaaipggakaaDoor.ins Go.Proofs.YtcbefaaipggakaaDoor.nums Go.Proofs.YtcbefaaipggakaaDoor.flows

theorem right_ins {x : I} (h : insFault x = 0) : bareOk x = true ∧ typedOk x = true ∧ (needC x.op = true → nameOk x.c.data.toList = true) ∧ (needN x.op = true → nameOk x.n.data.toList = true) := by
  unfold insFault at h
  split at h
  · cases h
  split at h
  · cases h
  rename_i h2
  split at h
  · cases h
  split at h
  · cases h
  rename_i h4
  simp only [not_or, not_and, Bool.not_eq_false] at h4
  exact ⟨by simpa using h2, h4.1, h4.2.1, h4.2.2⟩
theorem kinds_all : ((List.range 29).all fun k => !(needT (k : Int)) || isIn (k : Int) [2, 9, 10] || isIn (k : Int) [18, 20, 21] || isIn (k : Int) [22, 23] || isIn (k : Int) [24, 25]) = true := by decide +kernel
theorem kinds_of {k : Nat} (hk : k ≤ 28) (h : needT (k : Int) = true) : isIn (k : Int) [2, 9, 10] = true ∨ isIn (k : Int) [18, 20, 21] = true ∨ isIn (k : Int) [22, 23] = true ∨ isIn (k : Int) [24, 25] = true := by
  have h1 := List.all_eq_true.1 kinds_all k (List.mem_range.2 (by omega))
  rw [h] at h1
  simp only [Bool.not_true, Bool.false_or, Bool.or_eq_true] at h1
  rcases h1 with ((h1 | h1) | h1) | h1
  · exact .inl h1
  · exact .inr (.inl h1)
  · exact .inr (.inr (.inl h1))
  · exact .inr (.inr (.inr h1))
theorem type_sp {x : I} (ht : typedOk x = true) (h : isIn x.op [2, 9, 10] = true ∨ isIn x.op [18, 20, 21] = true ∨ isIn x.op [22, 23] = true ∨ isIn x.op [24, 25] = true) : NoSp x.t.data.toList := by
  unfold typedOk at ht
  by_cases h1 : isIn x.op [2, 9, 10] = true
  · rw [if_pos h1] at ht; exact wd_sp ht
  rw [if_neg h1] at ht
  by_cases h2 : isIn x.op [18, 20, 21] = true
  · rw [if_pos h2, Bool.and_eq_true] at ht; exact isTy_sp ht.1
  rw [if_neg h2] at ht
  by_cases h3 : isIn x.op [22, 23] = true
  · rw [if_pos h3, Bool.and_eq_true] at ht; exact isTy_sp ht.1
  rw [if_neg h3] at ht
  by_cases h4 : isIn x.op [24, 25] = true
  · rw [if_pos h4] at ht; exact method_sp ht
  · rcases h with h | h | h | h
    · exact absurd h h1
    · exact absurd h h2
    · exact absurd h h3
    · exact absurd h h4

theorem word_sp_all : (formTab.all fun p => p.1.all fun c => c != 32) = true := by decide +kernel
theorem word_sp {k : Nat} {wd nd : List UInt8} (hk : formTab[k]? = some (wd, nd)) : NoSp wd := by
  have h := List.all_eq_true.1 (List.all_eq_true.1 word_sp_all _ (List.mem_of_getElem? hk))
  intro x hx
  simpa using h x hx
theorem word_one_all : ((List.range 29).all fun i => (List.range 29).all fun j => (formTab[i]?).map (·.1) != (formTab[j]?).map (·.1) || i == j) = true := by decide +kernel
theorem word_one {i j : Nat} {wd nd nd' : List UInt8} (h1 : formTab[i]? = some (wd, nd)) (h2 : formTab[j]? = some (wd, nd')) : i = j := by
  have hi : i < 29 := (List.getElem?_eq_some_iff.1 h1).1
  have hj : j < 29 := (List.getElem?_eq_some_iff.1 h2).1
  have h := List.all_eq_true.1 (List.all_eq_true.1 word_one_all i (List.mem_range.2 hi)) j (List.mem_range.2 hj)
  rw [h1, h2] at h
  simpa using h

theorem bs_back (t : ByteArray) : bs t.data.toList = t := rfl
theorem bs_nil {t : ByteArray} (h : t.data.toList = []) : t = bs [] := by rw [← bs_back t, h]
theorem fields_text (k : Nat) (a b : Int) (t c n : ByteArray) (nd : List UInt8) (hp : nd ∈ patsL) (ha : InR a) (hb : InR b) (hA : nd.contains 65 = true ∨ a = 0) (hB : nd.contains 66 = true ∨ b = 0)
    (hT : nd.contains 84 = true ∨ t.data.toList = []) (hC : nd.contains 67 = true ∨ c.data.toList = []) (hN : nd.contains 78 = true ∨ n.data.toList = []) :
    fieldsOf nd (nd.map (partL ⟨(k : Int), a, b, t, c, n⟩)) (bareI k) = some ⟨(k : Int), a, b, t, c, n⟩ := by
  have na := num_itoa ha
  have nb := num_itoa hb
  simp only [patsL, List.mem_cons, List.not_mem_nil, or_false] at hp
  rcases hp with rfl | rfl | rfl | rfl | rfl | rfl | rfl | rfl <;>
  · simp at hA hB hT hC hN
    try (have e1 := bs_nil (t := t) (by simpa using hT); subst e1)
    try (have e2 := bs_nil (t := c) (by simpa using hC); subst e2)
    try (have e3 := bs_nil (t := n) (by simpa using hN); subst e3)
    try subst hA
    try subst hB
    simp [fieldsOf, setF, partL, na, nb, bareI, bs_back]

theorem parseL_one {s : List UInt8} {ws : List (List UInt8)} {k0 : Nat} {r : Option I} (h0 : tryOp s ws k0 = some r) (hn : ∀ k, k ≠ k0 → tryOp s ws k = none) : ∀ l : List Nat, k0 ∈ l → parseL s ws l = r
  | [], h => by cases h
  | k :: l, h => by
    by_cases e : k = k0
    · subst e
      rw [parseL, h0]
    · rw [parseL, hn k e]
      rcases List.mem_cons.1 h with h | h
      · exact absurd h.symm e
      · exact parseL_one h0 hn l h
theorem parseL_some {s : List UInt8} {ws : List (List UInt8)} {y : I} : ∀ l : List Nat, parseL s ws l = some y → ∃ k, tryOp s ws k = some (some y)
  | [], h => by cases h
  | k :: l, h => by
    rw [parseL] at h
    cases ht : tryOp s ws k with
    | none => rw [ht] at h; exact parseL_some l h
    | some r => rw [ht] at h; simp only at h; exact ⟨k, by rw [ht, h]⟩

/-- the text of a right instruction, read again, is the instruction -/
theorem parse_text {x : I} (h : insFault x = 0) (ha : InR x.a) (hb : InR x.b) : parseW (textL x) = some x := by
  obtain ⟨k, wd, nd, hk, h1, h2, hp, e⟩ := form_of h
  obtain ⟨op, a, b, t, c, n⟩ := x
  simp only at hk ha hb
  subst hk
  obtain ⟨hbare, htyp, hcn, hnn⟩ := right_ins h
  obtain ⟨pA, pB, pT, pC, pN, pm⟩ := pat_of hp h1 h2
  simp only at hcn hnn
  have hws : wordsOf (textL ⟨(k : Int), a, b, t, c, n⟩) = wd :: nd.map (partL ⟨(k : Int), a, b, t, c, n⟩) := by
    rw [e]
    refine words_text _ nd wd (word_sp hp) fun ch hch => ?_
    rcases (letters_ok hp).1 ch hch with rfl | rfl | rfl | rfl | rfl
    · exact itoa_sp a
    · exact itoa_sp b
    · exact type_sp htyp (kinds_of h2 (by rw [pT]; simpa using hch))
    · exact name_sp (hcn (by rw [pC]; simpa using hch))
    · exact name_sp (hnn (by rw [pN]; simpa using hch))
  unfold bareOk at hbare
  simp only [Bool.and_eq_true, Bool.or_eq_true, beq_iff_eq] at hbare
  obtain ⟨⟨⟨⟨bA, bB⟩, bT⟩, bC⟩, bN⟩ := hbare
  rw [pA] at bA
  rw [pB] at bB
  rw [pT] at bT
  rw [pC] at bC
  rw [pN] at bN
  have hf := fields_text k a b t c n nd pm ha hb bA bB bT bC bN
  unfold parseW
  rw [hws]
  refine parseL_one (k0 := k) ?_ (fun j hj => ?_) _ (List.mem_range.2 (by omega))
  · unfold tryOp
    rw [hp]
    simp only
    rw [if_neg (by simp; omega), List.tail_cons, hf]
    simp only
    rw [if_pos ⟨h, trivial⟩]
  · unfold tryOp
    cases hq : formTab[j]? with
    | none => rfl
    | some p =>
      obtain ⟨wd', nd'⟩ := p
      simp only
      rw [if_pos]
      refine .inl fun e' => ?_
      have e2 : wd' = wd := Option.some.inj e'
      subst e2
      exact hj (word_one hq hp)

theorem try_right {s : List UInt8} {ws : List (List UInt8)} {k : Nat} {y : I} (h : tryOp s ws k = some (some y)) : insFault y = 0 ∧ textL y = s ∧ ∃ nd, fieldsOf nd ws.tail (bareI k) = some y := by
  unfold tryOp at h
  cases hq : formTab[k]? with
  | none => rw [hq] at h; cases h
  | some p =>
    obtain ⟨wd, nd⟩ := p
    rw [hq] at h
    simp only at h
    split at h
    · cases h
    · cases hf : fieldsOf nd ws.tail (bareI k) with
      | none => rw [hf] at h; cases h
      | some x =>
        rw [hf] at h
        simp only at h
        split at h
        · rename_i hr
          cases h
          exact ⟨hr.1, hr.2, nd, hf⟩
        · cases h
theorem fields_fine : ∀ (nd : List UInt8) (ws : List (List UInt8)) (x y : I), fieldsOf nd ws x = some y → Fine x → (∀ w ∈ ws, w.length ≤ 10000000) → Fine y
  | [], ws, x, y, h, hx, _ => by
    have : some x = some y := by rw [← h, fieldsOf]; intro _ _ _ _ h; cases h
    cases this; exact hx
  | ch :: nd, [], x, y, h, hx, _ => by
    have : some x = some y := by rw [← h, fieldsOf]; intro _ _ _ _ _ h; cases h
    cases this; exact hx
  | ch :: nd, w :: ws, x, y, h, hx, hw => by
    have hw1 := hw w (List.mem_cons_self ..)
    have hw2 := fun u hu => hw u (List.mem_cons_of_mem w hu)
    rw [fieldsOf] at h
    split at h
    · cases hn : numOf w with
      | none => rw [hn] at h; cases h
      | some v =>
        rw [hn] at h
        exact fields_fine nd ws _ y h (fine_set hx hw1 (num_in hn)) hw2
    · exact fields_fine nd ws _ y h (fine_set hx hw1 in_zero) hw2
/-- what a text reads as is right, and the text is its text -/
theorem parse_right {s : List UInt8} {y : I} (h : parseW s = some y) (hs : s.length ≤ 10000000) : insFault y = 0 ∧ textL y = s ∧ Fine y := by
  obtain ⟨k, hk⟩ := parseL_some _ h
  obtain ⟨h1, h2, nd, hf⟩ := try_right hk
  refine ⟨h1, h2, fields_fine nd _ _ y hf (fine_bare k) fun w hw => ?_⟩
  have := words_short s w (List.mem_of_mem_tail hw)
  omega
end Go.Proofs.YtcbefaaipggakaaDoor.txts
