/- An instruction's text read again, and a text that reads as an instruction, plainly. No condition of the world. -/
import Derived.Test.YtloeaihbnnnncaaGreatDoorPrs2
import Derived.Lib.AtoiAllCases
import Derived.Lib.IndexLaws
set_option linter.unusedSimpArgs false
set_option linter.unusedVariables false
namespace Go.Proofs.YtloeaihbnnnncaaGreatDoor.txts
open Go.RowKit Go.Proofs.YtloeaihbnnnncaaGreatDoor.lib Go.Proofs.YtloeaihbnnnncaaGreatDoor.errs Go.Proofs.YtloeaihbnnnncaaGreatDoor.names Go.Proofs.YtloeaihbnnnncaaGreatDoor.descs Go.Proofs.YtloeaihbnnnncaaGreatDoor.ins Go.Proofs.YtloeaihbnnnncaaGreatDoor.nums Go.Proofs.YtloeaihbnnnncaaGreatDoor.flows

/-- no space -/
def NoSp (l : List UInt8) : Prop := ∀ x ∈ l, ¬ x = 32
theorem words_none : ∀ {l : List UInt8}, NoSp l → wordsOf l = [l]
  | [], _ => rfl
  | c :: r, h => by
    have ih := words_none (l := r) fun x hx => h x (List.mem_cons_of_mem _ hx)
    rw [wordsOf, if_neg (h c (List.mem_cons_self ..)), ih]
theorem words_app : ∀ {a : List UInt8} (l : List UInt8), NoSp a → wordsOf (a ++ 32 :: l) = a :: wordsOf l
  | [], l, _ => by rw [List.nil_append, wordsOf, if_pos rfl]
  | c :: r, l, h => by
    have ih := words_app (a := r) l fun x hx => h x (List.mem_cons_of_mem _ hx)
    rw [List.cons_append, wordsOf, if_neg (h c (List.mem_cons_self ..)), ih]
theorem words_text (x : I) : ∀ (nd wd : List UInt8), NoSp wd → (∀ ch ∈ nd, NoSp (partL x ch)) → wordsOf (wd ++ tailL x nd) = wd :: nd.map (partL x)
  | [], wd, h, _ => by
    show wordsOf (wd ++ []) = [wd]
    rw [List.append_nil, words_none h]
  | ch :: nd, wd, h, hp => by
    have e : tailL x (ch :: nd) = 32 :: (partL x ch ++ tailL x nd) := rfl
    rw [e, words_app _ h, words_text x nd _ (hp ch (List.mem_cons_self ..)) fun c hc => hp c (List.mem_cons_of_mem _ hc)]
    rfl

/-- digits -/
theorem digit_of (n : Nat) (h : n < 10) : (UInt8.ofNat (48 + n)).toNat = 48 + n := by
  rw [UInt8.toNat_ofNat']; omega
theorem parse_digits : ∀ (u : Nat) (r : List UInt8), u ≤ 9223372036854775808 → Lib.parseUint10 0 (Lib.decDigits u ++ r) = Lib.parseUint10 u r := by
  intro u
  induction u using Nat.strongRecOn with
  | _ u ih =>
    intro r hu
    by_cases h : u < 10
    · rw [Lib.decDigits_one h]
      show Lib.parseUint10 0 (UInt8.ofNat (48 + u) :: r) = _
      rw [Lib.parseUint10, digit_of u h, if_pos (by omega), if_neg (by omega), if_neg (by omega)]
      congr 1
      omega
    · rw [Lib.decDigits, dif_neg h, List.append_assoc, ih (u / 10) (by omega) _ (by omega)]
      show Lib.parseUint10 (u / 10) (UInt8.ofNat (48 + u % 10) :: r) = _
      rw [Lib.parseUint10, digit_of _ (by omega), if_pos (by omega), if_neg (by omega), if_neg (by omega)]
      congr 1
      omega
theorem digits_all : ∀ (u : Nat), ∀ x ∈ Lib.decDigits u, 48 ≤ x.toNat ∧ x.toNat ≤ 57 := by
  intro u
  induction u using Nat.strongRecOn with
  | _ u ih =>
    intro x hx
    by_cases h : u < 10
    · rw [Lib.decDigits_one h, List.mem_singleton] at hx
      subst hx
      rw [digit_of u h]; omega
    · rw [Lib.decDigits, dif_neg h, List.mem_append, List.mem_singleton] at hx
      rcases hx with hx | rfl
      · exact ih _ (by omega) x hx
      · rw [digit_of _ (by omega)]; omega
theorem digits_ne (u : Nat) : Lib.decDigits u ≠ [] := by
  rw [Lib.decDigits]
  split <;> simp
theorem parse_mag (u : Nat) (h : u ≤ 9223372036854775808) : Lib.parseMag (Lib.decDigits u) = .ok u := by
  rw [Lib.parseMag, if_neg (digits_ne u)]
  have := parse_digits u [] h
  rw [List.append_nil] at this
  rw [this]
  rfl
theorem num_itoa {n : Int} (h : InR n) : numOf (Lib.itoa n) = some n := by
  obtain ⟨h1, h2⟩ := h
  have h1 : -9223372036854775808 ≤ n := h1
  have h2 : n ≤ 9223372036854775807 := h2
  have key : Lib.atoiAll (Lib.itoa n) = .ok n := by
    unfold Lib.itoa
    by_cases hn : n < 0
    · rw [if_pos hn, Lib.atoiAll_minus, parse_mag _ (by omega)]
      simp only [Lib.signed]
      rw [if_neg (by omega)]
      congr 1
      omega
    · rw [if_neg hn]
      cases hd : Lib.decDigits n.toNat with
      | nil => exact absurd hd (digits_ne _)
      | cons c r =>
        have hc := digits_all n.toNat c (by rw [hd]; exact List.mem_cons_self ..)
        rw [Lib.atoiAll_plain c r (by omega) (by omega), ← hd, parse_mag _ (by omega)]
        simp only [Lib.signless]
        rw [if_neg (by omega)]
        congr 1
        omega
  unfold numOf
  rw [key]
theorem sp_num {x : UInt8} (h : 33 ≤ x.toNat) : ¬ x = 32 := by rintro rfl; exact absurd h (by decide)
theorem itoa_sp (n : Int) : NoSp (Lib.itoa n) := by
  intro x hx
  unfold Lib.itoa at hx
  split at hx
  · rcases List.mem_cons.1 hx with rfl | hx
    · decide
    · exact sp_num (by have := digits_all _ x hx; omega)
  · exact sp_num (by have := digits_all _ x hx; omega)
theorem name_sp {l : List UInt8} (h : nameOk l = true) : NoSp l := by
  intro x hx
  unfold nameOk at h
  simp only [Bool.and_eq_true] at h
  have h1 := List.all_eq_true.1 h.1.2 x hx
  rintro rfl
  revert h1
  decide
theorem ty_sp {l : List UInt8} (h : tyLen l ≠ 0) : NoSp (l.take (tyLen l)) := by
  obtain ⟨d, hd⟩ : ∃ d, l.dropWhile (· == 91) = d := ⟨_, rfl⟩
  obtain ⟨p, hp⟩ : ∃ p, l.takeWhile (· == 91) = p := ⟨_, rfl⟩
  have hl : l = p ++ d := by rw [← hd, ← hp, List.takeWhile_append_dropWhile]
  have hpp : ∀ x ∈ p, x = 91 := fun x hx => by
    rw [← hp] at hx
    have := List.all_eq_true.1 (List.all_takeWhile (p := (· == 91)) (l := l)) x hx
    simpa using this
  have hn : l.length - d.length = p.length := by rw [hl, List.length_append]; omega
  have key : ∀ m, NoSp (d.take m) → NoSp (l.take (p.length + m)) := fun m hm x hx => by
    rw [hl, List.take_append, List.mem_append] at hx
    rcases hx with hx | hx
    · rw [hpp x (List.mem_of_mem_take hx)]; decide
    · exact hm x (by rwa [Nat.add_sub_cancel_left] at hx)
  unfold tyLen at h ⊢
  rw [hd] at h ⊢
  split at h
  · exact absurd rfl h
  · rename_i hdeep
    rw [if_neg hdeep]
    cases d with
    | nil => exact absurd rfl h
    | cons c r =>
      simp only at h ⊢
      rw [hn] at h ⊢
      by_cases h1 : c = 73 ∨ c = 74
      · rw [if_pos h1]
        refine key 1 fun x hx => ?_
        rw [List.take_succ_cons, List.take_zero, List.mem_singleton] at hx
        subst hx
        rcases h1 with rfl | rfl <;> decide
      · rw [if_neg h1] at h ⊢
        by_cases h2 : c = 76
        · rw [if_pos h2] at h ⊢
          by_cases h3 : Lib.indexByte (c :: r) 59 = -1
          · rw [if_pos h3] at h; exact absurd rfl h
          · rw [if_neg h3] at h ⊢
            cases h4 : nameOk (((c :: r).take (Lib.indexByte (c :: r) 59).toNat).drop 1) with
            | false => rw [h4] at h; exact absurd rfl h
            | true =>
              simp only [if_true]
              have hge := Lib.indexByte_ge (c :: r) 59
              obtain ⟨j, hj⟩ : ∃ j : Nat, Lib.indexByte (c :: r) 59 = (j : Int) := ⟨(Lib.indexByte (c :: r) 59).toNat, by omega⟩
              have hs := Lib.indexByte_some hj
              rw [hj, Int.toNat_natCast] at h4 ⊢
              refine key (j + 1) fun x hx => ?_
              rw [List.take_add_one, hs.1, Option.toList_some, List.mem_append, List.mem_singleton] at hx
              rcases hx with hx | rfl
              · cases j with
                | zero => cases hx
                | succ j =>
                  rw [List.take_succ_cons] at hx h4
                  rcases List.mem_cons.1 hx with rfl | hx
                  · rw [h2]; decide
                  · exact name_sp h4 x hx
              · decide
        · rw [if_neg h2] at h; exact absurd rfl h
theorem isTy_sp {l : List UInt8} (h : isTy l = true) : NoSp l := by
  unfold isTy at h
  simp only [decide_eq_true_eq] at h
  have := ty_sp h.1
  rwa [h.2, List.take_length] at this
theorem scan_sp : ∀ (n : Nat) (l : List UInt8), l.length ≤ n → (∀ x ∈ (scan l).2, ¬ x = 32) → NoSp l := by
  intro n
  induction n with
  | zero =>
    intro l hl _ x hx
    have : l = [] := List.length_eq_zero_iff.1 (by omega)
    subst this
    cases hx
  | succ n ih =>
    intro l hl h
    by_cases h1 : l.head? = some 41 ∨ tyLen l = 0
    · rw [scan_stop h1] at h; exact h
    · have h2 : ¬ l.head? = some 41 := fun e => h1 (.inl e)
      have h3 : tyLen l ≠ 0 := fun e => h1 (.inr e)
      rw [scan_step h2 h3] at h
      have hd := ih (l.drop (tyLen l)) (by rw [List.length_drop]; omega) h
      intro x hx
      rw [← List.take_append_drop (tyLen l) l, List.mem_append] at hx
      rcases hx with hx | hx
      · exact ty_sp h3 x hx
      · exact hd x hx
theorem method_sp {l : List UInt8} (h : (methodOf l).isSome = true) : NoSp l := by
  cases l with
  | nil => intro x hx; cases hx
  | cons c r =>
    rw [methodOf] at h
    by_cases h1 : c = 40 ∧ (scan r).2.head? = some 41 ∧ (scan r).1.length ≤ 5 ∧ ((scan r).2.drop 1 = [86] ∨ isTy ((scan r).2.drop 1) = true)
    · obtain ⟨hc, hh, _, hg⟩ := h1
      intro x hx
      rcases List.mem_cons.1 hx with rfl | hx
      · rw [hc]; decide
      · refine scan_sp r.length r (Nat.le_refl _) ?_ x hx
        intro y hy
        cases hs : (scan r).2 with
        | nil => rw [hs] at hy; cases hy
        | cons g q =>
          rw [hs] at hy hh hg
          have hg1 : g = 41 := by simpa using hh
          rcases List.mem_cons.1 hy with rfl | hy
          · rw [hg1]; decide
          · rw [List.drop_succ_cons, List.drop_zero] at hg
            rcases hg with hg | hg
            · rw [hg, List.mem_singleton] at hy; rw [hy]; decide
            · exact isTy_sp hg y hy
    · rw [if_neg h1] at h; cases h
theorem wd_sp {l : List UInt8} (h : isWd l = true) : NoSp l := by
  unfold isWd at h
  simp only [decide_eq_true_eq] at h
  intro x hx
  rcases h with rfl | rfl <;> (rw [List.mem_singleton] at hx; subst hx; decide)
end Go.Proofs.YtloeaihbnnnncaaGreatDoor.txts

/- An instruction's text read again gives the instruction; a text that reads as an instruction is its text. No condition of the world. -/
set_option linter.unusedSimpArgs false
set_option linter.unusedVariables false
namespace Go.Proofs.YtloeaihbnnnncaaGreatDoor.txts
open Go.RowKit Go.Proofs.YtloeaihbnnnncaaGreatDoor.lib Go.Proofs.YtloeaihbnnnncaaGreatDoor.errs Go.Proofs.YtloeaihbnnnncaaGreatDoor.names Go.Proofs.YtloeaihbnnnncaaGreatDoor.descs Go.Proofs.YtloeaihbnnnncaaGreatDoor.ins Go.Proofs.YtloeaihbnnnncaaGreatDoor.nums Go.Proofs.YtloeaihbnnnncaaGreatDoor.flows

theorem right_ins {x : I} (h : insFault x = 0) : bareOk x = true ∧ typedOk x = true ∧ (needC x.op = true → nameOk x.c.data.toList = true) ∧ (needN x.op = true → nameOk x.n.data.toList = true) := by
  unfold insFault at h
  split at h
  · cases h
  split at h
  · cases h
  rename_i h2
  split at h
  · cases h
  split at h
  · cases h
  rename_i h4
  simp only [not_or, not_and, Bool.not_eq_false] at h4
  exact ⟨by simpa using h2, h4.1, h4.2.1, h4.2.2⟩
theorem kinds_all : ((List.range 29).all fun k => !(needT (k : Int)) || isIn (k : Int) [2, 9, 10] || isIn (k : Int) [18, 20, 21] || isIn (k : Int) [22, 23] || isIn (k : Int) [24, 25]) = true := by decide +kernel
theorem kinds_of {k : Nat} (hk : k ≤ 28) (h : needT (k : Int) = true) : isIn (k : Int) [2, 9, 10] = true ∨ isIn (k : Int) [18, 20, 21] = true ∨ isIn (k : Int) [22, 23] = true ∨ isIn (k : Int) [24, 25] = true := by
  have h1 := List.all_eq_true.1 kinds_all k (List.mem_range.2 (by omega))
  rw [h] at h1
  simp only [Bool.not_true, Bool.false_or, Bool.or_eq_true] at h1
  rcases h1 with ((h1 | h1) | h1) | h1
  · exact .inl h1
  · exact .inr (.inl h1)
  · exact .inr (.inr (.inl h1))
  · exact .inr (.inr (.inr h1))
theorem type_sp {x : I} (ht : typedOk x = true) (h : isIn x.op [2, 9, 10] = true ∨ isIn x.op [18, 20, 21] = true ∨ isIn x.op [22, 23] = true ∨ isIn x.op [24, 25] = true) : NoSp x.t.data.toList := by
  unfold typedOk at ht
  by_cases h1 : isIn x.op [2, 9, 10] = true
  · rw [if_pos h1] at ht; exact wd_sp ht
  rw [if_neg h1] at ht
  by_cases h2 : isIn x.op [18, 20, 21] = true
  · rw [if_pos h2, Bool.and_eq_true] at ht; exact isTy_sp ht.1
  rw [if_neg h2] at ht
  by_cases h3 : isIn x.op [22, 23] = true
  · rw [if_pos h3, Bool.and_eq_true] at ht; exact isTy_sp ht.1
  rw [if_neg h3] at ht
  by_cases h4 : isIn x.op [24, 25] = true
  · rw [if_pos h4] at ht; exact method_sp ht
  · rcases h with h | h | h | h
    · exact absurd h h1
    · exact absurd h h2
    · exact absurd h h3
    · exact absurd h h4

theorem word_sp_all : (formTab.all fun p => p.1.all fun c => c != 32) = true := by decide +kernel
theorem word_sp {k : Nat} {wd nd : List UInt8} (hk : formTab[k]? = some (wd, nd)) : NoSp wd := by
  have h := List.all_eq_true.1 (List.all_eq_true.1 word_sp_all _ (List.mem_of_getElem? hk))
  intro x hx
  simpa using h x hx
theorem word_one_all : ((List.range 29).all fun i => (List.range 29).all fun j => (formTab[i]?).map (·.1) != (formTab[j]?).map (·.1) || i == j) = true := by decide +kernel
theorem word_one {i j : Nat} {wd nd nd' : List UInt8} (h1 : formTab[i]? = some (wd, nd)) (h2 : formTab[j]? = some (wd, nd')) : i = j := by
  have hi : i < 29 := (List.getElem?_eq_some_iff.1 h1).1
  have hj : j < 29 := (List.getElem?_eq_some_iff.1 h2).1
  have h := List.all_eq_true.1 (List.all_eq_true.1 word_one_all i (List.mem_range.2 hi)) j (List.mem_range.2 hj)
  rw [h1, h2] at h
  simpa using h

theorem bs_back (t : ByteArray) : bs t.data.toList = t := rfl
theorem bs_nil {t : ByteArray} (h : t.data.toList = []) : t = bs [] := by rw [← bs_back t, h]
theorem fields_text (k : Nat) (a b : Int) (t c n : ByteArray) (nd : List UInt8) (hp : nd ∈ patsL) (ha : InR a) (hb : InR b) (hA : nd.contains 65 = true ∨ a = 0) (hB : nd.contains 66 = true ∨ b = 0)
    (hT : nd.contains 84 = true ∨ t.data.toList = []) (hC : nd.contains 67 = true ∨ c.data.toList = []) (hN : nd.contains 78 = true ∨ n.data.toList = []) :
    fieldsOf nd (nd.map (partL ⟨(k : Int), a, b, t, c, n⟩)) (bareI k) = some ⟨(k : Int), a, b, t, c, n⟩ := by
  have na := num_itoa ha
  have nb := num_itoa hb
  simp only [patsL, List.mem_cons, List.not_mem_nil, or_false] at hp
  rcases hp with rfl | rfl | rfl | rfl | rfl | rfl | rfl | rfl <;>
  · simp at hA hB hT hC hN
    try (have e1 := bs_nil (t := t) (by simpa using hT); subst e1)
    try (have e2 := bs_nil (t := c) (by simpa using hC); subst e2)
    try (have e3 := bs_nil (t := n) (by simpa using hN); subst e3)
    try subst hA
    try subst hB
    simp [fieldsOf, setF, partL, na, nb, bareI, bs_back]

theorem parseL_one {s : List UInt8} {ws : List (List UInt8)} {k0 : Nat} {r : Option I} (h0 : tryOp s ws k0 = some r) (hn : ∀ k, k ≠ k0 → tryOp s ws k = none) : ∀ l : List Nat, k0 ∈ l → parseL s ws l = r
  | [], h => by cases h
  | k :: l, h => by
    by_cases e : k = k0
    · subst e
      rw [parseL, h0]
    · rw [parseL, hn k e]
      rcases List.mem_cons.1 h with h | h
      · exact absurd h.symm e
      · exact parseL_one h0 hn l h
theorem parseL_some {s : List UInt8} {ws : List (List UInt8)} {y : I} : ∀ l : List Nat, parseL s ws l = some y → ∃ k, tryOp s ws k = some (some y)
  | [], h => by cases h
  | k :: l, h => by
    rw [parseL] at h
    cases ht : tryOp s ws k with
    | none => rw [ht] at h; exact parseL_some l h
    | some r => rw [ht] at h; simp only at h; exact ⟨k, by rw [ht, h]⟩

/-- the text of a right instruction, read again, is the instruction -/
theorem parse_text {x : I} (h : insFault x = 0) (ha : InR x.a) (hb : InR x.b) : parseW (textL x) = some x := by
  obtain ⟨k, wd, nd, hk, h1, h2, hp, e⟩ := form_of h
  obtain ⟨op, a, b, t, c, n⟩ := x
  simp only at hk ha hb
  subst hk
  obtain ⟨hbare, htyp, hcn, hnn⟩ := right_ins h
  obtain ⟨pA, pB, pT, pC, pN, pm⟩ := pat_of hp h1 h2
  simp only at hcn hnn
  have hws : wordsOf (textL ⟨(k : Int), a, b, t, c, n⟩) = wd :: nd.map (partL ⟨(k : Int), a, b, t, c, n⟩) := by
    rw [e]
    refine words_text _ nd wd (word_sp hp) fun ch hch => ?_
    rcases (letters_ok hp).1 ch hch with rfl | rfl | rfl | rfl | rfl
    · exact itoa_sp a
    · exact itoa_sp b
    · exact type_sp htyp (kinds_of h2 (by rw [pT]; simpa using hch))
    · exact name_sp (hcn (by rw [pC]; simpa using hch))
    · exact name_sp (hnn (by rw [pN]; simpa using hch))
  unfold bareOk at hbare
  simp only [Bool.and_eq_true, Bool.or_eq_true, beq_iff_eq] at hbare
  obtain ⟨⟨⟨⟨bA, bB⟩, bT⟩, bC⟩, bN⟩ := hbare
  rw [pA] at bA
  rw [pB] at bB
  rw [pT] at bT
  rw [pC] at bC
  rw [pN] at bN
  have hf := fields_text k a b t c n nd pm ha hb bA bB bT bC bN
  unfold parseW
  rw [hws]
  refine parseL_one (k0 := k) ?_ (fun j hj => ?_) _ (List.mem_range.2 (by omega))
  · unfold tryOp
    rw [hp]
    simp only
    rw [if_neg (by simp; omega), List.tail_cons, hf]
    simp only
    rw [if_pos ⟨h, trivial⟩]
  · unfold tryOp
    cases hq : formTab[j]? with
    | none => rfl
    | some p =>
      obtain ⟨wd', nd'⟩ := p
      simp only
      rw [if_pos]
      refine .inl fun e' => ?_
      have e2 : wd' = wd := Option.some.inj e'
      subst e2
      exact hj (word_one hq hp)

theorem try_right {s : List UInt8} {ws : List (List UInt8)} {k : Nat} {y : I} (h : tryOp s ws k = some (some y)) : insFault y = 0 ∧ textL y = s ∧ ∃ nd, fieldsOf nd ws.tail (bareI k) = some y := by
  unfold tryOp at h
  cases hq : formTab[k]? with
  | none => rw [hq] at h; cases h
  | some p =>
    obtain ⟨wd, nd⟩ := p
    rw [hq] at h
    simp only at h
    split at h
    · cases h
    · cases hf : fieldsOf nd ws.tail (bareI k) with
      | none => rw [hf] at h; cases h
      | some x =>
        rw [hf] at h
        simp only at h
        split at h
        · rename_i hr
          cases h
          exact ⟨hr.1, hr.2, nd, hf⟩
        · cases h
theorem fields_fine : ∀ (nd : List UInt8) (ws : List (List UInt8)) (x y : I), fieldsOf nd ws x = some y → Fine x → (∀ w ∈ ws, w.length ≤ 10000000) → Fine y
  | [], ws, x, y, h, hx, _ => by
    have : some x = some y := by rw [← h, fieldsOf]; intro _ _ _ _ h; cases h
    cases this; exact hx
  | ch :: nd, [], x, y, h, hx, _ => by
    have : some x = some y := by rw [← h, fieldsOf]; intro _ _ _ _ _ h; cases h
    cases this; exact hx
  | ch :: nd, w :: ws, x, y, h, hx, hw => by
    have hw1 := hw w (List.mem_cons_self ..)
    have hw2 := fun u hu => hw u (List.mem_cons_of_mem w hu)
    rw [fieldsOf] at h
    split at h
    · cases hn : numOf w with
      | none => rw [hn] at h; cases h
      | some v =>
        rw [hn] at h
        exact fields_fine nd ws _ y h (fine_set hx hw1 (num_in hn)) hw2
    · exact fields_fine nd ws _ y h (fine_set hx hw1 in_zero) hw2
/-- what a text reads as is right, and the text is its text -/
theorem parse_right {s : List UInt8} {y : I} (h : parseW s = some y) (hs : s.length ≤ 10000000) : insFault y = 0 ∧ textL y = s ∧ Fine y := by
  obtain ⟨k, hk⟩ := parseL_some _ h
  obtain ⟨h1, h2, nd, hf⟩ := try_right hk
  refine ⟨h1, h2, fields_fine nd _ _ y hf (fine_bare k) fun w hw => ?_⟩
  have := words_short s w (List.mem_of_mem_tail hw)
  omega
end Go.Proofs.YtloeaihbnnnncaaGreatDoor.txts
