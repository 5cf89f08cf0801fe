/- An instruction's text read again, and a text that reads as an instruction, plainly. No condition of the world. -/
import Derived.Test.YtcbefaaipggakaaDoorPrs2
import Derived.Lib.AtoiAllCases
import Derived.Lib.IndexLaws
set_option linter.unusedSimpArgs false
set_option linter.unusedVariables false
namespace Go.Proofs.YtcbefaaipggakaaDoor.txts
open Go.RowKit Go.Proofs.YtcbefaaipggakaaDoor.lib Go.Proofs.YtcbefaaipggakaaDoor.errs Go.Proofs.YtcbefaaipggakaaDoor.names Go.Proofs.YtcbefaaipggakaaDoor.descs Go.Proofs.YtcbefaaipggakaaDoor.ins Go.Proofs.YtcbefaaipggakaaDoor.nums Go.Proofs.YtcbefaaipggakaaDoor.flows

/-- no space -/
def NoSp (l : List UInt8) : Prop := ∀ x ∈ l, ¬ x = 32
theorem words_none : ∀ {l : List UInt8}, NoSp l → wordsOf l = [l]
  | [], _ => rfl
  | c :: r, h => by
    have ih := words_none (l := r) fun x hx => h x (List.mem_cons_of_mem _ hx)
    rw [wordsOf, if_neg (h c (List.mem_cons_self ..)), ih]
theorem words_app : ∀ {a : List UInt8} (l : List UInt8), NoSp a → wordsOf (a ++ 32 :: l) = a :: wordsOf l
  | [], l, _ => by rw [List.nil_append, wordsOf, if_pos rfl]
  | c :: r, l, h => by
    have ih := words_app (a := r) l fun x hx => h x (List.mem_cons_of_mem _ hx)
    rw [List.cons_append, wordsOf, if_neg (h c (List.mem_cons_self ..)), ih]
theorem words_text (x : I) : ∀ (nd wd : List UInt8), NoSp wd → (∀ ch ∈ nd, NoSp (partL x ch)) → wordsOf (wd ++ tailL x nd) = wd :: nd.map (partL x)
  | [], wd, h, _ => by
    show wordsOf (wd ++ []) = [wd]
    rw [List.append_nil, words_none h]
  | ch :: nd, wd, h, hp => by
    have e : tailL x (ch :: nd) = 32 :: (partL x ch ++ tailL x nd) := rfl
    rw [e, words_app _ h, words_text x nd _ (hp ch (List.mem_cons_self ..)) fun c hc => hp c (List.mem_cons_of_mem _ hc)]
    rfl

/-- digits -/
theorem digit_of (n : Nat) (h : n < 10) : (UInt8.ofNat (48 + n)).toNat = 48 + n := by
  rw [UInt8.toNat_ofNat']; omega
theorem parse_digits : ∀ (u : Nat) (r : List UInt8), u ≤ 9223372036854775808 → Lib.parseUint10 0 (Lib.decDigits u ++ r) = Lib.parseUint10 u r := by
  intro u
  induction u using Nat.strongRecOn with
  | _ u ih =>
    intro r hu
    by_cases h : u < 10
    · rw [Lib.decDigits_one h]
      show Lib.parseUint10 0 (UInt8.ofNat (48 + u) :: r) = _
      rw [Lib.parseUint10, digit_of u h, if_pos (by omega), if_neg (by omega), if_neg (by omega)]
      congr 1
      omega
    · rw [Lib.decDigits, dif_neg h, List.append_assoc, ih (u / 10) (by omega) _ (by omega)]
      show Lib.parseUint10 (u / 10) (UInt8.ofNat (48 + u % 10) :: r) = _
      rw [Lib.parseUint10, digit_of _ (by omega), if_pos (by omega), if_neg (by omega), if_neg (by omega)]
      congr 1
      omega
theorem digits_all : ∀ (u : Nat), ∀ x ∈ Lib.decDigits u, 48 ≤ x.toNat ∧ x.toNat ≤ 57 := by
  intro u
  induction u using Nat.strongRecOn with
  | _ u ih =>
    intro x hx
    by_cases h : u < 10
    · rw [Lib.decDigits_one h, List.mem_singleton] at hx
      subst hx
      rw [digit_of u h]; omega
    · rw [Lib.decDigits, dif_neg h, List.mem_append, List.mem_singleton] at hx
      rcases hx with hx | rfl
      · exact ih _ (by omega) x hx
      · rw [digit_of _ (by omega)]; omega
theorem digits_ne (u : Nat) : Lib.decDigits u ≠ [] := by
  rw [Lib.decDigits]
  split <;> simp
theorem parse_mag (u : Nat) (h : u ≤ 9223372036854775808) : Lib.parseMag (Lib.decDigits u) = .ok u := by
  rw [Lib.parseMag, if_neg (digits_ne u)]
  have := parse_digits u [] h
  rw [List.append_nil] at this
  rw [this]
  rfl
theorem num_itoa {n : Int} (h : InR n) : numOf (Lib.itoa n) = some n := by
  obtain ⟨h1, h2⟩ := h
  have h1 : -9223372036854775808 ≤ n := h1
  have h2 : n ≤ 9223372036854775807 := h2
  have key : Lib.atoiAll (Lib.itoa n) = .ok n := by
    unfold Lib.itoa
    by_cases hn : n < 0
    · rw [if_pos hn, Lib.atoiAll_minus, parse_mag _ (by omega)]
      simp only [Lib.signed]
      rw [if_neg (by omega)]
      congr 1
      omega
    · rw [if_neg hn]
      cases hd : Lib.decDigits n.toNat with
      | nil => exact absurd hd (digits_ne _)
      | cons c r =>
        have hc := digits_all n.toNat c (by rw [hd]; exact List.mem_cons_self ..)
        rw [Lib.atoiAll_plain c r (by omega) (by omega), ← hd, parse_mag _ (by omega)]
        simp only [Lib.signless]
        rw [if_neg (by omega)]
        congr 1
        omega
  unfold numOf
  rw [key]
theorem sp_num {x : UInt8} (h : 33 ≤ x.toNat) : ¬ x = 32 := by rintro rfl; exact absurd h (by decide)
theorem itoa_sp (n : Int) : NoSp (Lib.itoa n) := by
  intro x hx
  unfold Lib.itoa at hx
  split at hx
  · rcases List.mem_cons.1 hx with rfl | hx
    · decide
    · exact sp_num (by have := digits_all _ x hx; omega)
  · exact sp_num (by have := digits_all _ x hx; omega)
theorem name_sp {l : List UInt8} (h : nameOk l = true) : NoSp l := by
  intro x hx
  unfold nameOk at h
  simp only [Bool.and_eq_true] at h
  have h1 := List.all_eq_true.1 h.1.2 x hx
  rintro rfl
  revert h1
  decide
theorem ty_sp {l : List UInt8} (h : tyLen l ≠ 0) : NoSp (l.take (tyLen l)) := by
  obtain ⟨d, hd⟩ : ∃ d, l.dropWhile (· == 91) = d := ⟨_, rfl⟩
  obtain ⟨p, hp⟩ : ∃ p, l.takeWhile (· == 91) = p := ⟨_, rfl⟩
  have hl : l = p ++ d := by rw [← hd, ← hp, List.takeWhile_append_dropWhile]
  have hpp : ∀ x ∈ p, x = 91 := fun x hx => by
    rw [← hp] at hx
    have := List.all_eq_true.1 (List.all_takeWhile (p := (· == 91)) (l := l)) x hx
    simpa using this
  have hn : l.length - d.length = p.length := by rw [hl, List.length_append]; omega
  have key : ∀ m, NoSp (d.take m) → NoSp (l.take (p.length + m)) := fun m hm x hx => by
    rw [hl, List.take_append, List.mem_append] at hx
    rcases hx with hx | hx
    · rw [hpp x (List.mem_of_mem_take hx)]; decide
    · exact hm x (by rwa [Nat.add_sub_cancel_left] at hx)
  unfold tyLen at h ⊢
  rw [hd] at h ⊢
  split at h
  · exact absurd rfl h
  · rename_i hdeep
    rw [if_neg hdeep]
    cases d with
    | nil => exact absurd rfl h
    | cons c r =>
      simp only at h ⊢
      rw [hn] at h ⊢
      by_cases h1 : c = 73 ∨ c = 74
      · rw [if_pos h1]
        refine key 1 fun x hx => ?_
        rw [List.take_succ_cons, List.take_zero, List.mem_singleton] at hx
        subst hx
        rcases h1 with rfl | rfl <;> decide
      · rw [if_neg h1] at h ⊢
        by_cases h2 : c = 76
        · rw [if_pos h2] at h ⊢
          by_cases h3 : Lib.indexByte (c :: r) 59 = -1
          · rw [if_pos h3] at h; exact absurd rfl h
          · rw [if_neg h3] at h ⊢
            cases h4 : nameOk (((c :: r).take (Lib.indexByte (c :: r) 59).toNat).drop 1) with
            | false => rw [h4] at h; exact absurd rfl h
            | true =>
              simp only [if_true]
              have hge := Lib.indexByte_ge (c :: r) 59
              obtain ⟨j, hj⟩ : ∃ j : Nat, Lib.indexByte (c :: r) 59 = (j : Int) := ⟨(Lib.indexByte (c :: r) 59).toNat, by omega⟩
              have hs := Lib.indexByte_some hj
              rw [hj, Int.toNat_natCast] at h4 ⊢
              refine key (j + 1) fun x hx => ?_
              rw [List.take_add_one, hs.1, Option.toList_some, List.mem_append, List.mem_singleton] at hx
              rcases hx with hx | rfl
              · cases j with
                | zero => cases hx
                | succ j =>
                  rw [List.take_succ_cons] at hx h4
                  rcases List.mem_cons.1 hx with rfl | hx
                  · rw [h2]; decide
                  · exact name_sp h4 x hx
              · decide
        · rw [if_neg h2] at h; exact absurd rfl h
theorem isTy_sp {l : List UInt8} (h : isTy l = true) : NoSp l := by
  unfold isTy at h
  simp only [decide_eq_true_eq] at h
  have := ty_sp h.1
  rwa [h.2, List.take_length] at this
theorem scan_sp : ∀ (n : Nat) (l : List UInt8), l.length ≤ n → (∀ x ∈ (scan l).2, ¬ x = 32) → NoSp l := by
  intro n
  induction n with
  | zero =>
    intro l hl _ x hx
    have : l = [] := List.length_eq_zero_iff.1 (by omega)
    subst this
    cases hx
  | succ n ih =>
    intro l hl h
    by_cases h1 : l.head? = some 41 ∨ tyLen l = 0
    · rw [scan_stop h1] at h; exact h
    · have h2 : ¬ l.head? = some 41 := fun e => h1 (.inl e)
      have h3 : tyLen l ≠ 0 := fun e => h1 (.inr e)
      rw [scan_step h2 h3] at h
      have hd := ih (l.drop (tyLen l)) (by rw [List.length_drop]; omega) h
      intro x hx
      rw [← List.take_append_drop (tyLen l) l, List.mem_append] at hx
      rcases hx with hx | hx
      · exact ty_sp h3 x hx
      · exact hd x hx
theorem method_sp {l : List UInt8} (h : (methodOf l).isSome = true) : NoSp l := by
  cases l with
  | nil => intro x hx; cases hx
  | cons c r =>
    rw [methodOf] at h
    by_cases h1 : c = 40 ∧ (scan r).2.head? = some 41 ∧ (scan r).1.length ≤ 5 ∧ ((scan r).2.drop 1 = [86] ∨ isTy ((scan r).2.drop 1) = true)
    · obtain ⟨hc, hh, _, hg⟩ := h1
      intro x hx
      rcases List.mem_cons.1 hx with rfl | hx
      · rw [hc]; decide
      · refine scan_sp r.length r (Nat.le_refl _) ?_ x hx
        intro y hy
        cases hs : (scan r).2 with
        | nil => rw [hs] at hy; cases hy
        | cons g q =>
          rw [hs] at hy hh hg
          have hg1 : g = 41 := by simpa using hh
          rcases List.mem_cons.1 hy with rfl | hy
          · rw [hg1]; decide
          · rw [List.drop_succ_cons, List.drop_zero] at hg
            rcases hg with hg | hg
            · rw [hg, List.mem_singleton] at hy; rw [hy]; decide
            · exact isTy_sp hg y hy
    · rw [if_neg h1] at h; cases h
theorem wd_sp {l : List UInt8} (h : isWd l = true) : NoSp l := by
  unfold isWd at h
  simp only [decide_eq_true_eq] at h
  intro x hx
  rcases h with rfl | rfl <;> (rw [List.mem_singleton] at hx; subst hx; decide)
end Go.Proofs.YtcbefaaipggakaaDoor.txts
