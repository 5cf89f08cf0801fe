/- Constants folded: what is known about the head of a list of instructions; fold.push. No condition. -/
import Derived.Test.YtmbcjcicieiolaaDoorFlow1
import Derived.Test.YtmbcjcicieiolaaDoorNum1
import Derived.Test.YtmbcjcicieiolaaDoorTwo
namespace Go.Proofs.YtmbcjcicieiolaaDoor.folds
open Go.RowKit Go.Proofs.YtmbcjcicieiolaaDoor.lib Go.Proofs.YtmbcjcicieiolaaDoor.errs Go.Proofs.YtmbcjcicieiolaaDoor.names Go.Proofs.YtmbcjcicieiolaaDoor.descs Go.Proofs.YtmbcjcicieiolaaDoor.ins Go.Proofs.YtmbcjcicieiolaaDoor.flows Go.Proofs.YtmbcjcicieiolaaDoor.nums Go.Proofs.YtmbcjcicieiolaaDoor.grow

/-- the instruction pushes a number of this type -/
def pushOf (x : I) (t : ByteArray) : Bool := x.op == 2 && (x.t.toList == t.toList)
/-- a number's push -/
def made (a : Int) (t : ByteArray) : I := ⟨2, a, 0, t, { data := #[] }, { data := #[] }⟩
def noI : I := ⟨0, 0, 0, { data := #[] }, { data := #[] }, { data := #[] }⟩
/-- a conversion of a known number -/
def convOf (x y : I) : Bool := y.op == 10 && !(x.t.toList == y.t.toList)
def negOf (x y : I) : Bool := y.op == 9 && (y.a == 12 && pushOf x y.t)
def shiftI (z : I) : Bool := decide (9 ≤ z.a ∧ z.a ≤ 11)
def byOf (z : I) : ByteArray := if shiftI z = true then { data := #[73] } else z.t
/-- what two instructions give -/
def two (x y : I) : Option I :=
  if convOf x y = true then some (made (if y.t.toList = [73] then wrap32 x.a else x.a) y.t)
  else if negOf x y = true then some (made (ofOf y.t.data.toList y.a x.a 0).1 y.t)
  else none
/-- what three give -/
def three (x y z : I) : Option I :=
  if y.op = 2 ∧ z.op = 9 ∧ z.a ≠ 12 ∧ pushOf x z.t = true ∧ (ofOf z.t.data.toList z.a x.a y.a).2 = true ∧ pushOf y (byOf z) = true then some (made (ofOf z.t.data.toList z.a x.a y.a).1 z.t) else none
def rest3 (x y : I) : List I → I × Nat
  | [] => (noI, 0)
  | z :: _ => (three x y z).elim (noI, 0) fun m => (m, 3)
/-- what is known at the head: the instruction and how many it stands for; 0: nothing -/
def knownOf : List I → I × Nat
  | x :: y :: r => if x.op = 2 then (two x y).elim (rest3 x y r) fun m => (m, 2) else (noI, 0)
  | _ => (noI, 0)

theorem push_any (x : I) (t : ByteArray) (w : World) : Calls Tryd.prog 77 #[x.val, .string t] w fun e w' => e = .returned (.bool (pushOf x t)) ∧ Below w.heap.size w w' := by
  obtain ⟨op, a, b, xt, c, n⟩ := x
  obtain ⟨R, hR⟩ : ∃ R, pushOf ⟨op, a, b, xt, c, n⟩ t = R := ⟨_, rfl⟩
  rw [hR]
  by_cases h1 : op = 2
  · subst h1
    have HR : Hid (R = (xt.toList == t.toList)) := hid (by rw [← hR]; rfl)
    clear hR
    go_enter Tryd.func77, Tryd.ntmps77
    go_wp2_with fail
    go_ret
    rw [HR.out]
    exact ⟨rfl, ext_alloc _ _⟩
  · have HR : Hid (R = false) := hid (by rw [← hR]; simp [pushOf, h1])
    have h2 : (op == 2) = false := by simpa using h1
    clear hR
    go_enter Tryd.func77, Tryd.ntmps77
    go_wp2_with fail
    go_ret
    rw [HR.out]
    exact ⟨rfl, ext_alloc _ _⟩
end Go.Proofs.YtmbcjcicieiolaaDoor.folds

/- Constants folded: the plain law. What is folded once, and until nothing is left; folded code is right, as long, and goes where it went. No condition. -/
namespace Go.Proofs.YtmbcjcicieiolaaDoor.folds
open Go.RowKit Go.Proofs.YtmbcjcicieiolaaDoor.lib Go.Proofs.YtmbcjcicieiolaaDoor.errs Go.Proofs.YtmbcjcicieiolaaDoor.names Go.Proofs.YtmbcjcicieiolaaDoor.descs Go.Proofs.YtmbcjcicieiolaaDoor.ins Go.Proofs.YtmbcjcicieiolaaDoor.flows Go.Proofs.YtmbcjcicieiolaaDoor.nums

/-- something goes to this place -/
def goesTo (l : List I) (p : Int) : Bool := l.any fun x => jumpsOp x.op && decide (x.a = p)
/-- something is made at this place, and nothing goes into it -/
def placeB (l : List I) (i : Nat) : Bool :=
  (knownOf (l.drop i)).2 != 0 && !goesTo l (i + 1) && !goesTo l (i + (knownOf (l.drop i)).2 - 1)
def nopI : I := ⟨1, 0, 0, { data := #[] }, { data := #[] }, { data := #[] }⟩
def foldAt (l : List I) (i : Nat) : List I :=
  (l.take i ++ [(knownOf (l.drop i)).1]) ++ List.replicate ((knownOf (l.drop i)).2 - 1) nopI ++ l.drop (i + (knownOf (l.drop i)).2)
/-- folded once; false: nothing was found -/
def onceOf (l : List I) : List I × Bool :=
  match (List.range l.length).find? (placeB l) with
  | none => (l, false)
  | some i => (foldAt l i, true)
theorem once_at {l : List I} {i : Nat} (hi : i < l.length) (hp : placeB l i = true) (hn : ∀ j, j < i → placeB l j = false) : onceOf l = (foldAt l i, true) := by
  unfold onceOf
  rw [(List.find?_range_eq_some (n := l.length) (i := i) (p := placeB l)).2 ⟨hp, List.mem_range.2 hi, fun j hj => by rw [hn j hj]; rfl⟩]
theorem once_no {l : List I} (hn : ∀ j, j < l.length → placeB l j = false) : onceOf l = (l, false) := by
  unfold onceOf
  rw [(List.find?_range_eq_none (n := l.length) (p := placeB l)).2 fun j hj => by rw [hn j hj]; rfl]
theorem once_cases (l : List I) : (∃ i, i < l.length ∧ placeB l i = true ∧ onceOf l = (foldAt l i, true)) ∨ ((∀ j, j < l.length → placeB l j = false) ∧ onceOf l = (l, false)) := by
  cases h : (List.range l.length).find? (placeB l) with
  | none =>
    right
    have h2 := (List.find?_range_eq_none (n := l.length) (p := placeB l)).1 h
    refine ⟨fun j hj => by have := h2 j hj; simpa using this, by unfold onceOf; rw [h]⟩
  | some i =>
    left
    have h2 := (List.find?_range_eq_some (n := l.length) (i := i) (p := placeB l)).1 h
    exact ⟨i, List.mem_range.1 h2.2.1, h2.1, by unfold onceOf; rw [h]⟩

theorem two_op {x y m : I} (h : two x y = some m) : (y.op = 10 ∨ y.op = 9) ∧ ∃ a, m = made a y.t ∧ (y.t.data.toList = [73] → wrap32 a = a) := by
  unfold two at h
  by_cases h1 : convOf x y = true
  · rw [if_pos h1] at h
    have h2 : y.op = 10 := by unfold convOf at h1; simp at h1; exact h1.1
    refine ⟨.inl h2, ?_⟩
    by_cases h3 : y.t.toList = [73]
    · rw [if_pos h3] at h
      exact ⟨_, (Option.some.inj h).symm, fun _ => by unfold wrap32; omega⟩
    · rw [if_neg h3] at h
      exact ⟨_, (Option.some.inj h).symm, fun h4 => absurd (by rw [ByteArray.toList_eq]; exact h4) h3⟩
  · rw [if_neg h1] at h
    by_cases h2 : negOf x y = true
    · rw [if_pos h2] at h
      have h3 : y.op = 9 := by unfold negOf at h2; simp at h2; exact h2.1
      refine ⟨.inr h3, _, (Option.some.inj h).symm, fun h4 => ?_⟩
      unfold ofOf
      simp only [h4, if_true]
      unfold wrap32; omega
    · rw [if_neg h2] at h; cases h
theorem three_op {x y z m : I} (h : three x y z = some m) : y.op = 2 ∧ z.op = 9 ∧ ∃ a, m = made a z.t ∧ (z.t.data.toList = [73] → wrap32 a = a) := by
  unfold three at h
  split at h
  · rename_i hh
    refine ⟨hh.1, hh.2.1, _, (Option.some.inj h).symm, fun h4 => ?_⟩
    unfold ofOf
    simp only [h4, if_true]
    unfold wrap32; omega
  · cases h
/-- what is known: nothing, or of two, or of three -/
theorem known_cases (l : List I) : (knownOf l).2 = 0 ∨ ((knownOf l).2 = 2 ∧ ∃ x y r, l = x :: y :: r ∧ x.op = 2 ∧ two x y = some (knownOf l).1) ∨
    ((knownOf l).2 = 3 ∧ ∃ x y z r, l = x :: y :: z :: r ∧ x.op = 2 ∧ three x y z = some (knownOf l).1) := by
  match l with
  | [] => exact .inl rfl
  | [_] => exact .inl rfl
  | x :: y :: r =>
    by_cases hx : x.op = 2
    · have e : knownOf (x :: y :: r) = (two x y).elim (rest3 x y r) fun m => (m, 2) := if_pos hx
      cases h2 : two x y with
      | some m => right; left; rw [e, h2]; exact ⟨rfl, x, y, r, rfl, hx, h2⟩
      | none =>
        rw [h2] at e
        cases r with
        | nil => left; rw [e]; rfl
        | cons z r =>
          cases h3 : three x y z with
          | none => left; rw [e]; show ((three x y z).elim _ _ : I × Nat).2 = 0; rw [h3]; rfl
          | some m =>
            have e2 : knownOf (x :: y :: z :: r) = (m, 3) := by rw [e]; show (three x y z).elim _ _ = _; rw [h3]; rfl
            right; right; rw [e2]; exact ⟨rfl, x, y, z, r, rfl, hx, h3⟩
    · left; show (if x.op = 2 then _ else ((noI, 0) : I × Nat)).2 = 0; rw [if_neg hx]

/-- how many do something -/
def live (l : List I) : Nat := l.countP fun x => x.op != 1
def keeps (x m : I) : Prop := (jumpsOp x.op = true ∨ jumpsOp m.op = true ∨ endsOp x.op = true ∨ endsOp m.op = true) → m = x
/-- what a place that is folded looks like -/
theorem fold_split {l : List I} {i : Nat} (hp : placeB l i = true) : ∃ p x g r m, l = p ++ (x :: g) ++ r ∧ p.length = i ∧ x.op = 2 ∧ g ≠ [] ∧ (∀ y ∈ g, y.op = 9 ∨ y.op = 10 ∨ y.op = 2) ∧
    (∃ y ∈ g, (y.op = 9 ∨ y.op = 10) ∧ ∃ a, m = made a y.t ∧ (y.t.data.toList = [73] → wrap32 a = a)) ∧ foldAt l i = p ++ [m] ++ List.replicate g.length nopI ++ r ∧ (knownOf (l.drop i)).2 = g.length + 1 := by
  have h0 : (knownOf (l.drop i)).2 ≠ 0 := by unfold placeB at hp; simp at hp; exact hp.1.1
  have hi : i ≤ l.length := by
    rcases Nat.lt_or_ge l.length i with h | h
    · rw [List.drop_eq_nil_of_le (by omega)] at h0; exact absurd rfl h0
    · exact h
  rcases known_cases (l.drop i) with h | ⟨h, x, y, r, e, hx, hm⟩ | ⟨h, x, y, z, r, e, hx, hm⟩
  · exact absurd h h0
  · obtain ⟨hy, a, ha, hw⟩ := two_op hm
    refine ⟨l.take i, x, [y], r, _, ?_, ?_, hx, by simp, ?_, ⟨y, by simp, hy.symm, a, ha, hw⟩, ?_, h⟩
    · rw [List.append_assoc]; show l = l.take i ++ (x :: y :: r); rw [← e, List.take_append_drop]
    · simp; omega
    · intro u hu; simp at hu; subst hu; omega
    · unfold foldAt
      rw [h, ← List.drop_drop, e]; rfl
  · obtain ⟨hy, hz, a, ha, hw⟩ := three_op hm
    refine ⟨l.take i, x, [y, z], r, _, ?_, ?_, hx, by simp, ?_, ⟨z, by simp, .inl hz, a, ha, hw⟩, ?_, h⟩
    · rw [List.append_assoc]; show l = l.take i ++ (x :: y :: z :: r); rw [← e, List.take_append_drop]
    · simp; omega
    · intro u hu; simp at hu; rcases hu with rfl | rfl
      · exact .inr (.inr hy)
      · exact .inl hz
    · unfold foldAt
      rw [h, ← List.drop_drop, e]; rfl
theorem fold_len {l : List I} {i : Nat} (hp : placeB l i = true) : (foldAt l i).length = l.length := by
  obtain ⟨p, x, g, r, m, rfl, _, _, _, _, _, e, _⟩ := fold_split hp
  rw [e]; simp
theorem fold_live {l : List I} {i : Nat} (hp : placeB l i = true) : live (foldAt l i) < live l := by
  obtain ⟨p, x, g, r, m, rfl, _, hx, hg, hgo, _, e, _⟩ := fold_split hp
  rw [e]
  have hm : (List.replicate g.length nopI).countP (fun x => x.op != 1) = 0 := by
    rw [List.countP_eq_zero]; intro u hu; rw [(List.mem_replicate.1 hu).2]; decide
  have hg2 : 0 < g.countP (fun x => x.op != 1) := by
    obtain ⟨y, g', rfl⟩ := List.exists_cons_of_ne_nil hg
    rw [List.countP_pos_iff]
    refine ⟨y, by simp, ?_⟩
    have := hgo y (by simp)
    simp; omega
  have hm1 : [m].countP (fun x => x.op != 1) ≤ 1 := List.countP_le_length
  unfold live
  simp only [List.countP_append, List.countP_cons, hm]
  simp only [List.countP_cons, List.countP_nil] at hm1
  simp [hx]
  split <;> omega
theorem once_len (l : List I) : (onceOf l).1.length = l.length := by
  rcases once_cases l with ⟨i, _, hp, e⟩ | ⟨_, e⟩
  · rw [e]; exact fold_len hp
  · rw [e]
theorem once_live {l : List I} (h : (onceOf l).2 = true) : live (onceOf l).1 < live l := by
  rcases once_cases l with ⟨i, _, hp, e⟩ | ⟨_, e⟩
  · rw [e]; exact fold_live hp
  · rw [e] at h; cases h
theorem once_same {l : List I} (h : (onceOf l).2 = false) : (onceOf l).1 = l := by
  rcases once_cases l with ⟨i, _, hp, e⟩ | ⟨_, e⟩
  · rw [e] at h; cases h
  · rw [e]

/-- folded until nothing is found -/
def allOf : Nat → List I → List I
  | 0, l => l
  | k + 1, l => if (onceOf l).2 = true then allOf k (onceOf l).1 else l
def finOf (l : List I) : List I := allOf (live l + 1) l
theorem all_fuel : ∀ (k : Nat) (l : List I), live l < k → allOf k l = finOf l := by
  intro k
  induction k using Nat.strongRecOn with
  | ind k ih =>
    intro l hl
    obtain ⟨j, rfl⟩ : ∃ j, k = j + 1 := ⟨k - 1, by omega⟩
    unfold finOf
    simp only [allOf]
    by_cases h : (onceOf l).2 = true
    · rw [if_pos h, if_pos h]
      have := once_live h
      rw [ih j (by omega) _ (by omega), ih (live l) (by omega) _ (by omega)]
    · rw [if_neg h, if_neg h]
theorem fin_step {l : List I} (h : (onceOf l).2 = true) : finOf (onceOf l).1 = finOf l := by
  have e : finOf l = allOf (live l) (onceOf l).1 := by unfold finOf; rw [allOf, if_pos h]
  rw [e, all_fuel _ _ (once_live h)]
theorem fin_end {l : List I} (h : (onceOf l).2 = false) : finOf l = l := by
  unfold finOf; rw [allOf, if_neg (by rw [h]; decide)]
theorem fin_once (l : List I) : finOf (onceOf l).1 = finOf l := by
  cases h : (onceOf l).2 with
  | true => exact fin_step h
  | false => rw [once_same h]
/-- what each fold keeps is kept to the end -/
theorem fin_keep (Q : List I → Prop) (h : ∀ l, Q l → Q (onceOf l).1) : ∀ (n : Nat) (l : List I), live l ≤ n → Q l → Q (finOf l) ∧ (onceOf (finOf l)).2 = false := by
  intro n
  induction n with
  | zero =>
    intro l hl hq
    have h2 : (onceOf l).2 = false := by
      cases hh : (onceOf l).2 with
      | true => have := once_live hh; omega
      | false => rfl
    rw [fin_end h2]; exact ⟨hq, h2⟩
  | succ n ih =>
    intro l hl hq
    cases hh : (onceOf l).2 with
    | true => rw [← fin_step hh]; have := once_live hh; exact ih _ (by omega) (h l hq)
    | false => rw [fin_end hh]; exact ⟨hq, hh⟩
theorem fin_no (l : List I) : (onceOf (finOf l)).2 = false := (fin_keep (fun _ => True) (fun _ _ => trivial) (live l) l (Nat.le_refl _) trivial).2
theorem fin_again (l : List I) : finOf (finOf l) = finOf l := fin_end (fin_no l)
theorem fin_same (l : List I) : (onceOf (finOf l)).1 = finOf l := once_same (fin_no l)
theorem fin_len (l : List I) : (finOf l).length = l.length :=
  (fin_keep (fun m => m.length = l.length) (fun m h => (once_len m).trans h) (live l) l (Nat.le_refl _) rfl).1
/-- right code, part by part -/
def RightC (l : List I) : Prop := l.length ≤ 40 ∧ (∀ x ∈ l, insFault x = 0) ∧ (∀ x ∈ l, jumpsOp x.op = true → x.a < (l.length : Int)) ∧ lastEnds l = true
theorem bad_iff : ∀ (l : List I), badIns l = 0 ↔ ∀ x ∈ l, insFault x = 0
  | [] => by simp [badIns]
  | x :: l => by
    unfold badIns
    by_cases hx : insFault x = 0
    · rw [if_pos hx, bad_iff l]; simp [hx]
    · rw [if_neg hx]; simp [hx]
theorem out_iff (n : Nat) : ∀ (l : List I), jumpsOut n l = false ↔ ∀ x ∈ l, jumpsOp x.op = true → x.a < (n : Int)
  | [] => by simp [jumpsOut]
  | x :: l => by
    unfold jumpsOut
    by_cases hx : jumpsOp x.op = true ∧ (n : Int) ≤ x.a
    · rw [if_pos hx]
      constructor
      · intro h; cases h
      · intro h; have := h x (by simp) hx.1; omega
    · rw [if_neg hx, out_iff n l]
      constructor
      · intro h y hy hj
        rcases List.mem_cons.1 hy with rfl | hy
        · rcases Int.lt_or_le y.a n with h1 | h1
          · exact h1
          · exact absurd ⟨hj, h1⟩ hx
        · exact h y hy hj
      · intro h y hy; exact h y (List.mem_cons_of_mem _ hy)
theorem code_iff (l : List I) : codeFault l = 0 ↔ RightC l := by
  unfold codeFault RightC
  rw [← bad_iff, ← out_iff]
  by_cases h1 : 40 < l.length
  · rw [if_pos h1]; constructor
    · intro h; cases h
    · intro h; omega
  · rw [if_neg h1]
    by_cases h2 : badIns l = 0
    · rw [if_neg (by simp [h2])]
      by_cases h3 : jumpsOut l.length l = true
      · rw [if_pos h3, h3]; simp
      · rw [if_neg h3]
        have h3' : jumpsOut l.length l = false := by simpa using h3
        by_cases h4 : lastEnds l = true
        · rw [if_pos h4, h3', h4]; simp [h2]; omega
        · rw [if_neg h4]
          have h4' : lastEnds l = false := by simpa using h4
          rw [h4']; simp
    · rw [if_pos h2]; simp [h2]

theorem wd_of {y : I} (h : insFault y = 0) (ho : y.op = 9 ∨ y.op = 10 ∨ y.op = 2) : isWd y.t.data.toList = true := by
  unfold insFault at h
  split at h
  · cases h
  split at h
  · cases h
  split at h
  · cases h
  split at h
  · cases h
  rename_i h4
  have h5 : typedOk y = true := by
    cases hh : typedOk y with
    | true => rfl
    | false => exact absurd (.inl hh) h4
  have h6 : isIn y.op [2, 9, 10] = true := by rcases ho with e | e | e <;> rw [e] <;> decide
  unfold typedOk at h5
  rw [if_pos h6] at h5
  exact h5
theorem made_ok {a : Int} {t : ByteArray} (ht : isWd t.data.toList = true) (hw : t.data.toList = [73] → wrap32 a = a) : insFault (made a t) = 0 := by
  unfold insFault made
  have h1 : bareOk ⟨2, a, 0, t, { data := #[] }, { data := #[] }⟩ = true := by unfold bareOk; simp [needA, needB, needT, needC, needN, isIn]
  have h2 : rangedOk ⟨2, a, 0, t, { data := #[] }, { data := #[] }⟩ = true := by
    unfold rangedOk
    rw [if_pos rfl]
    by_cases h3 : t.data.toList = [73]
    · have := hw h3
      unfold wrap32 at this
      simp [h3]; omega
    · simp [h3]
  have h3 : typedOk ⟨2, a, 0, t, { data := #[] }, { data := #[] }⟩ = true := by
    unfold typedOk
    rw [if_pos (show isIn 2 [2, 9, 10] = true by decide)]; exact ht
  rw [if_neg (by simp), if_neg (by rw [h1]; decide), if_neg (by rw [h2]; decide), if_neg (by rw [h3]; simp [needC, needN, isIn])]
theorem nop_ok : insFault nopI = 0 := by
  unfold insFault nopI
  have h1 : bareOk ⟨1, 0, 0, { data := #[] }, { data := #[] }, { data := #[] }⟩ = true := by unfold bareOk; simp [needA, needB, needT, needC, needN, isIn]
  have h2 : rangedOk ⟨1, 0, 0, { data := #[] }, { data := #[] }, { data := #[] }⟩ = true := by unfold rangedOk; simp [jumpsOp]
  have h3 : typedOk ⟨1, 0, 0, { data := #[] }, { data := #[] }, { data := #[] }⟩ = true := by unfold typedOk; simp [isIn]
  rw [if_neg (by simp), if_neg (by rw [h1]; decide), if_neg (by rw [h2]; decide), if_neg (by rw [h3]; simp [needC, needN, isIn])]

theorem last_app (l : List I) {r : List I} (h : r ≠ []) : (l ++ r).getLast? = r.getLast? := by
  rw [List.getLast?_append]
  cases hq : r.getLast? with
  | none => exact absurd (List.getLast?_eq_none_iff.1 hq) h
  | some q => rfl
/-- what jumps or ends stays where it is -/
def Stays (l m : List I) : Prop := m.length = l.length ∧ ∀ (j : Nat) (x : I), l[j]? = some x → (jumpsOp x.op = true ∨ endsOp x.op = true) → m[j]? = some x
theorem stays_refl (l : List I) : Stays l l := ⟨rfl, fun _ _ h _ => h⟩
theorem Stays.trans {l m k : List I} (h : Stays l m) (h2 : Stays m k) : Stays l k := ⟨h2.1.trans h.1, fun j x hx hj => h2.2 j x (h.2 j x hx hj) hj⟩
theorem flat_ops {x : I} {g : List I} (hx : x.op = 2) (hg : ∀ y ∈ g, y.op = 9 ∨ y.op = 10 ∨ y.op = 2) : ∀ y ∈ x :: g, ¬ (jumpsOp y.op = true ∨ endsOp y.op = true) := by
  intro y hy
  have : y.op = 9 ∨ y.op = 10 ∨ y.op = 2 := by
    rcases List.mem_cons.1 hy with rfl | hy
    · exact .inr (.inr hx)
    · exact hg y hy
  rcases this with e | e | e <;> rw [e] <;> decide
theorem fold_stays {l : List I} {i : Nat} (hp : placeB l i = true) : Stays l (foldAt l i) := by
  refine ⟨fold_len hp, ?_⟩
  obtain ⟨p, x, g, r, m, rfl, _, hx, _, hg, _, e, _⟩ := fold_split hp
  have hf := flat_ops hx hg
  rw [e]
  intro j u hu hj
  have hl : ([m] ++ List.replicate g.length nopI).length = (x :: g).length := by simp
  rw [List.append_assoc p [m]]
  rw [List.append_assoc] at hu ⊢
  rcases Nat.lt_or_ge j p.length with h | h
  · rw [List.getElem?_append_left h] at hu ⊢; exact hu
  · rw [List.getElem?_append_right h] at hu ⊢
    rcases Nat.lt_or_ge (j - p.length) (x :: g).length with h2 | h2
    · rw [List.getElem?_append_left h2] at hu
      exact absurd hj (hf u (List.mem_of_getElem? hu))
    · rw [List.getElem?_append_right h2] at hu
      rw [List.getElem?_append_right (by rw [hl]; exact h2), hl]; exact hu
theorem fold_right {l : List I} {i : Nat} (hp : placeB l i = true) (h : RightC l) (hs : ∀ x ∈ l, Small x) : RightC (foldAt l i) ∧ ∀ x ∈ foldAt l i, Small x := by
  have hl := fold_len hp
  obtain ⟨p, x, g, r, m, rfl, _, hx, hg0, hg, ⟨y, hy, hyo, a, rfl, hw⟩, e, _⟩ := fold_split hp
  have hf := flat_ops hx hg
  obtain ⟨h1, h2, h3, h4⟩ := h
  have hym : y ∈ p ++ (x :: g) ++ r := by simp [hy]
  have hmem : ∀ u ∈ foldAt (p ++ (x :: g) ++ r) i, u ∈ p ++ (x :: g) ++ r ∨ u = made a y.t ∨ u = nopI := by
    intro u hu
    rw [e] at hu
    simp only [List.mem_append, List.mem_singleton, List.mem_replicate] at hu
    rcases hu with ((hu | hu) | hu) | hu
    · left; simp [hu]
    · right; left; exact hu
    · right; right; exact hu.2
    · left; simp [hu]
  have hmo : made a y.t = (⟨2, a, 0, y.t, { data := #[] }, { data := #[] }⟩ : I) := rfl
  refine ⟨⟨by rw [hl]; exact h1, ?_, ?_, ?_⟩, ?_⟩
  · intro u hu
    rcases hmem u hu with hu | rfl | rfl
    · exact h2 u hu
    · exact made_ok (wd_of (h2 y hym) (by omega)) hw
    · exact nop_ok
  · intro u hu hj
    rw [hl]
    rcases hmem u hu with hu | rfl | rfl
    · exact h3 u hu hj
    · rw [hmo] at hj; exact absurd hj (by simp [jumpsOp])
    · exact absurd hj (by decide)
  · have hr : r ≠ [] := by
      rintro rfl
      unfold lastEnds at h4
      rw [List.append_nil, last_app _ (by simp)] at h4
      cases hq : (x :: g).getLast? with
      | none => rw [hq] at h4; cases h4
      | some q => rw [hq] at h4; exact hf q (List.mem_of_getLast? hq) (.inr h4)
    unfold lastEnds at h4 ⊢
    rw [e, last_app _ hr]
    rw [last_app _ hr] at h4
    exact h4
  · intro u hu
    rcases hmem u hu with hu | rfl | rfl
    · exact hs u hu
    · have := (hs y hym).1
      exact ⟨this, by simp [made, ByteArray.size], by simp [made, ByteArray.size]⟩
    · exact ⟨by simp [nopI, ByteArray.size], by simp [nopI, ByteArray.size], by simp [nopI, ByteArray.size]⟩
theorem once_right {l : List I} (h : RightC l ∧ ∀ x ∈ l, Small x) : RightC (onceOf l).1 ∧ ∀ x ∈ (onceOf l).1, Small x := by
  rcases once_cases l with ⟨i, _, hp, e⟩ | ⟨_, e⟩
  · rw [e]; exact fold_right hp h.1 h.2
  · rw [e]; exact h
theorem once_stays (l : List I) : Stays l (onceOf l).1 := by
  rcases once_cases l with ⟨i, _, hp, e⟩ | ⟨_, e⟩
  · rw [e]; exact fold_stays hp
  · rw [e]; exact stays_refl l
theorem fin_right {l : List I} (h : RightC l ∧ ∀ x ∈ l, Small x) : RightC (finOf l) ∧ ∀ x ∈ finOf l, Small x :=
  (fin_keep (fun m => RightC m ∧ ∀ x ∈ m, Small x) (fun _ h => once_right h) (live l) l (Nat.le_refl _) h).1
theorem fin_stays (l : List I) : Stays l (finOf l) :=
  (fin_keep (fun m => Stays l m) (fun m h => h.trans (once_stays m)) (live l) l (Nat.le_refl _) (stays_refl l)).1
/-- what is known of an instruction of right code: the type's letters, the operation, the number -/
def Sound (x : I) : Prop := (x.op = 9 ∨ x.op = 10 ∨ x.op = 2 → x.t.data.toList = [73] ∨ x.t.data.toList = [74]) ∧ (x.op = 9 → 1 ≤ x.a ∧ x.a ≤ 12) ∧ InR x.a ∧ (x.op = 2 → x.t.data.toList = [73] → -2147483648 ≤ x.a ∧ x.a ≤ 2147483647)
theorem sound_of {x : I} (h : insFault x = 0) (ha : InR x.a) : Sound x := by
  have hr : rangedOk x = true := by
    unfold insFault at h
    split at h
    · cases h
    split at h
    · cases h
    split at h
    · cases h
    rename_i h3
    simpa using h3
  refine ⟨fun ho => ?_, fun ho => ?_, ha, fun ho ht => ?_⟩
  · have := wd_of h ho
    unfold isWd at this
    simpa using this
  · unfold rangedOk at hr
    rw [if_neg (by omega), if_neg (by omega), if_pos ho] at hr
    simpa using hr
  · unfold rangedOk at hr
    rw [if_pos ho, ht] at hr
    simpa using hr

theorem at6 {w u : World} {b off n c : Nat} {l : List I} (h : Go.Proofs.YtmbcjcicieiolaaDoor.flows.Code w (.slice (some ⟨b, off, none⟩) n c) l) (hb : Below w.heap.size w u) {k : Nat} {x : I} (hx : l[k]? = some x) :
    u.cell? ⟨b, off + k * 6, none⟩ = some (.int .i64 x.op) ∧ u.cell? ⟨b, off + k * 6 + 1, none⟩ = some (.int .i64 x.a) ∧ u.cell? ⟨b, off + k * 6 + 2, none⟩ = some (.int .i64 x.b) ∧
      u.cell? ⟨b, off + k * 6 + 3, none⟩ = some (.string x.t) ∧ u.cell? ⟨b, off + k * 6 + 4, none⟩ = some (.string x.c) ∧ u.cell? ⟨b, off + k * 6 + 5, none⟩ = some (.string x.n) := by
  obtain ⟨hk, rfl⟩ := List.getElem?_eq_some_iff.1 hx
  obtain ⟨b', off', he, h⟩ := code_at (h.below hb) hk
  cases he
  exact h
theorem drop_two {l : List I} {i : Nat} {x y : I} (hx : l[i]? = some x) (hy : l[i + 1]? = some y) : l.drop i = x :: y :: l.drop (i + 2) := by
  obtain ⟨h1, rfl⟩ := List.getElem?_eq_some_iff.1 hx
  obtain ⟨h2, rfl⟩ := List.getElem?_eq_some_iff.1 hy
  rw [List.drop_eq_getElem_cons h1, List.drop_eq_getElem_cons h2]
theorem drop_three {l : List I} {i : Nat} {x y z : I} (hx : l[i]? = some x) (hy : l[i + 1]? = some y) (hz : l[i + 2]? = some z) : l.drop i = x :: y :: z :: l.drop (i + 3) := by
  obtain ⟨h1, rfl⟩ := List.getElem?_eq_some_iff.1 hz
  rw [drop_two hx hy, List.drop_eq_getElem_cons h1]
theorem known_two {x y : I} {r : List I} (hx : x.op = 2) {m : I} (h : two x y = some m) : knownOf (x :: y :: r) = (m, 2) := by
  show (if x.op = 2 then (two x y).elim (rest3 x y r) fun m => (m, 2) else (noI, 0)) = _
  rw [if_pos hx, h]; rfl
theorem known_rest {x y : I} {r : List I} (hx : x.op = 2) (h : two x y = none) : knownOf (x :: y :: r) = rest3 x y r := by
  show (if x.op = 2 then (two x y).elim (rest3 x y r) fun m => (m, 2) else (noI, 0)) = _
  rw [if_pos hx, h]; rfl
theorem known_op {x y : I} {r : List I} (h : y.op ≠ 2) (h2 : two x y = none) : knownOf (x :: y :: r) = (noI, 0) := by
  by_cases hx : x.op = 2
  · rw [known_rest hx h2]
    cases r with
    | nil => rfl
    | cons z r => show (three x y z).elim _ _ = _; rw [show three x y z = none from if_neg (fun hh => h hh.1)]; rfl
  · exact if_neg hx

end Go.Proofs.YtmbcjcicieiolaaDoor.folds
