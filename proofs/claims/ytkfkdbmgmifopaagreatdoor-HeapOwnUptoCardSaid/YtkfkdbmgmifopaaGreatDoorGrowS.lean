/- A region that draws its order: what only computes, or reads what one of its operations turns but only behind it, is taken first; then what alone may come up, or two side by side. Conditions: each operation's own outcome; which may come up, and what stands behind what, is asked of the kernel. -/
import Derived.Test.YtkfkdbmgmifopaaGreatDoorGrow
import Derived.StillTail
set_option linter.unusedVariables false
namespace Go.Proofs.YtkfkdbmgmifopaaGreatDoor.grow
open RowKit

section
variable {P : Program} {ops : Array Oper} {md : Region.Mode} {Q : Exit → Act → World → Prop} {D : World → Prop} {s : Nat} {pu : Bool}

/-- D holds until number s is done -/
def CS (D : World → Prop) (s : Nat) (listed : Array Bool) (w : World) : Prop := listed.getD s false = false → D w
def Closed (md : Region.Mode) (ops : Array Oper) (listed : Array Bool) : Prop := ∀ j oj, ops[j]? = some oj → listed.getD j false = true → ∀ e ∈ oj.after, Region.binds md e = true → listed.getD e.on false = true
/-- s stands behind i -/
def behB (md : Region.Mode) (ops : Array Oper) (i : Nat) : Nat → Nat → Bool
  | 0, _ => false
  | f + 1, s => match ops[s]? with
    | none => false
    | some o => o.after.any fun e => Region.binds md e && (e.on == i || behB md ops i f e.on)
theorem behind {i : Nat} : ∀ {f s : Nat} {listed : Array Bool}, Closed md ops listed → behB md ops i f s = true → listed.getD i false = false → listed.getD s false = false
  | 0, _, _, _, h, _ => by cases h
  | f + 1, s, listed, hc, h, hi => by
    unfold behB at h
    split at h
    · cases h
    · rename_i o ho
      obtain ⟨e, he, hb⟩ := Array.any_eq_true'.1 h
      simp only [Bool.and_eq_true, Bool.or_eq_true, beq_iff_eq] at hb
      cases hs : listed.getD s false with
      | false => rfl
      | true =>
        have h1 := hc s o ho hs e he hb.1
        rcases hb.2 with h2 | h2
        · rw [h2, hi] at h1; cases h1
        · rw [behind hc h2 hi] at h1; cases h1
theorem closed_set {i : Nat} {listed : Array Bool} (hc : Closed md ops listed) (hi : i ∈ Region.ready md ops listed) : Closed md ops (listed.setIfInBounds i true) := by
  obtain ⟨_, oi, hoi, hall⟩ := mem_ready.1 hi
  intro j oj hj hl e he hb
  by_cases hij : i = j
  · subst hij
    have : oj = oi := Option.some.inj (hj.symm.trans hoi)
    subst this
    exact getD_set_true (hall e he hb)
  · rw [getD_set_ne false hij] at hl
    exact getD_set_true (hc j oj hj hl e he hb)
theorem closed_none (n : Nat) : Closed md ops (Array.replicate n false) := fun j _ _ h => by rw [getD_replicate_false] at h; cases h

/-- Whatever order is picked from here on; D is kept until s is done. -/
def wpAnyS (P : Program) (md : Region.Mode) (ops : Array Oper) (Q : Exit → Act → World → Prop) (D : World → Prop) (s : Nat) : Nat → Array Bool → Act → World → Prop
  | 0, listed, a, w => Region.ready md ops listed = [] ∧ Q .normal a w
  | f + 1, listed, a, w => (Region.ready md ops listed = [] → Q .normal a w) ∧ ∀ i ∈ Region.ready md ops listed, wpOp P ops Q i (fun a' w' => CS D s (listed.setIfInBounds i true) w' ∧ wpAnyS P md ops Q D s f (listed.setIfInBounds i true) a' w') a w
theorem wpAny_of_S : ∀ (f : Nat) (listed : Array Bool) (a : Act) (w : World), wpAnyS P md ops Q D s f listed a w → wpAny P md ops Q f listed a w
  | 0, _, _, _, h => h
  | f + 1, _, _, _, h => ⟨h.1, fun i hi => wpOp_mono (fun a' w' h' => wpAny_of_S f _ a' w' h'.2) (h.2 i hi)⟩

/-- the operation gives this value in every world, or in every world of D -/
def YieldsS (P : Program) (ops : Array Oper) (D : World → Prop) (pu : Bool) (o : Oper) (v : Value) (a : Act) : Prop :=
  Region.wanted o (yielded ops a.tmps) = true ∧ ∀ w, (pu = true ∨ D w) → (execOp a.eval o).run P w = .ok (.value v) w

theorem upon_putS {o : Oper} {d : Option Tmp} {v : Value} {a : Act} {Y : Act → Prop} {K : Act → World → Prop} {r : Result Next} (hne : ∀ e, o.dst = some e → d ≠ some e) (hput : ∀ u, (a.put d v).put o.dst u = (a.put o.dst u).put d v)
    (hQ : ∀ c w, Q (.panic c) (a.put d v) w → Q (.panic c) a w) (hY : ∀ u, Y (a.put o.dst u)) (hD : ∀ x, Y (({ a with defers := x :: a.defers } : Act).put o.dst undef) ∧ ({ (a.put d v) with defers := x :: (a.put d v).defers } : Act).put o.dst undef = (({ a with defers := x :: a.defers } : Act).put o.dst undef).put d v)
    (h : o.upon P (a.put d v) K Q r) : o.upon P a (fun a' w' => Y a' ∧ K (a'.put d v) w') Q r := by
  cases r with
  | ok n w' =>
    cases n
    case value u => exact ⟨hY u, by have h' : K ((a.put d v).put o.dst u) w' := h; rw [hput] at h'; exact h'⟩
    case skip => exact ⟨hY _, by have h' : K ((a.put d v).put o.dst undef) w' := h; rw [hput] at h'; exact h'⟩
    case defer x => exact ⟨(hD x).1, by have h' : K _ w' := h; rw [(hD x).2] at h'; exact h'⟩
    case enter f args =>
      simp only [Oper.upon] at h ⊢
      refine Calls.mono h fun e w'' he => ?_
      cases e with
      | returned u => exact ⟨hY u, by have h' : K ((a.put d v).put o.dst u) w'' := he; rw [hput] at h'; exact h'⟩
      | panicked c => exact hQ _ _ he
      | outgrown => exact he
    case row row args =>
      simp only [Oper.upon] at h ⊢
      exact Rows.mono h fun u w'' he => ⟨hY u, by have h' : K ((a.put d v).put o.dst u) w'' := he; rw [hput] at h'; exact h'⟩
    all_goals (simp only [Oper.upon] at h)
  | halt x w' =>
    cases x <;> simp only [Oper.upon] at h ⊢
    case panic u => exact hQ _ _ h
theorem wpOp_putS {j : Nat} {oi oj : Oper} {v : Value} (hj : ops[j]? = some oj) (hap : oi.apart ops oj = true) (hsi : ∀ cs b, oi.op ≠ .select cs b) (hsj : ∀ cs b, oj.op ≠ .select cs b)
    (hQ : ∀ c a w, Q (.panic c) (a.put oi.dst v) w → Q (.panic c) a w) {K : Act → World → Prop} {a : Act} {w : World} (hy : YieldsS P ops D pu oi v a) (h : wpOp P ops Q j K (a.put oi.dst v) w) :
    wpOp P ops Q j (fun a' w' => YieldsS P ops D pu oi v a' ∧ K (a'.put oi.dst v) w') a w := by
  obtain ⟨q1, q2, q3⟩ := Oper.apart_spec hap
  have keep : ∀ a', YieldsS P ops D pu oi v a' → ∀ u, YieldsS P ops D pu oi v (a'.put oj.dst u) := fun a' hy u => by
    unfold YieldsS at *
    rw [execOp_put oi hsi a' oj.dst u q3, wanted_put oi a' oj.dst u q3]
    exact hy
  unfold wpOp at *
  simp only [hj] at *
  rw [wanted_put oj a oi.dst v q1] at h
  by_cases hw : Region.wanted oj (yielded ops a.tmps) = true
  · rw [if_pos hw] at h ⊢
    rcases h with h | ⟨h1, h2⟩
    · refine .inl ?_
      unfold Oper.wp at *
      rw [execOp_put oj hsj a oi.dst v q1] at h
      refine upon_putS (fun e he hd => ?_) (fun u => (Act.put_comm a v u q2).symm ▸ rfl) (fun c w => hQ c a w) (keep a hy) (fun x => ⟨keep ({ a with defers := x :: a.defers } : Act) hy _, ?_⟩) h
      · exact q2 e (by rw [hd]) he
      · rw [Act.put_defers, Act.put_comm _ v undef q2]
    · exact .inr ⟨by unfold Oper.asks at *; rw [execOp_put oj hsj a oi.dst v q1] at h1; exact h1, h2⟩
  · rw [if_neg hw] at h ⊢
    exact ⟨keep a hy _, by rw [← Act.put_comm a v undef q2]; exact h⟩
theorem yieldsS_run {i : Nat} {oi : Oper} {v : Value} {a : Act} {w : World} (hi : ops[i]? = some oi) (h : YieldsS P ops D pu oi v a) (hC : pu = true ∨ D w) {K : Act → World → Prop} (hK : K (a.put oi.dst v) w) : wpOp P ops Q i K a w := by
  unfold wpOp
  simp only [hi]
  rw [if_pos h.1]
  refine .inl ?_
  unfold Oper.wp
  rw [h.2 w hC]
  exact hK
theorem holdsS {i : Nat} {listed : Array Bool} {w : World} {f : Nat} (hb : pu = true ∨ behB md ops i f s = true) (hcl : Closed md ops listed) (hun : listed.getD i false = false) (hC : CS D s listed w) : pu = true ∨ D w := by
  rcases hb with h | h
  · exact .inl h
  · exact .inr (hC (behind hcl h hun))

/-- AN OPERATION THAT COMPUTES, OR READS WHAT STAYS AS LONG AS IT IS NOT DONE, MAY BE TAKEN FIRST. -/
theorem wpAnyS_first {i f0 : Nat} {oi : Oper} {v : Value} (hi : ops[i]? = some oi) (hsel : ∀ (j : Nat) (o : Oper) cs b, ops[j]? = some o → o.op ≠ .select cs b) (hQ : ∀ c a w, Q (.panic c) (a.put oi.dst v) w → Q (.panic c) a w)
    (hb : pu = true ∨ behB md ops i f0 s = true) (hsi : s ≠ i) :
    ∀ (fuel : Nat) (listed : Array Bool) (a : Act) (w : World),
      (∀ j oj, ops[j]? = some oj → j ≠ i → listed.getD j true = false → (∀ e ∈ oj.after, Region.binds md e = true → e.on ≠ i) → oi.apart ops oj = true) →
      Closed md ops listed → i ∈ Region.ready md ops listed → YieldsS P ops D pu oi v a → CS D s listed w → wpAnyS P md ops Q D s fuel (listed.setIfInBounds i true) (a.put oi.dst v) w → wpAnyS P md ops Q D s (fuel + 1) listed a w := by
  have hcs : ∀ {listed : Array Bool} {w : World}, CS D s listed w → CS D s (listed.setIfInBounds i true) w := fun {listed w} h hl => h (by
    cases hs : listed.getD s false with
    | false => rfl
    | true => rw [getD_set_true hs] at hl; cases hl)
  intro fuel
  induction fuel with
  | zero =>
    intro listed a w _ hcl hr hy hC H
    have hun := getD_both (mem_ready.1 hr).1
    refine ⟨fun h => (by rw [h] at hr; cases hr), fun j hj => ?_⟩
    by_cases hji : j = i
    · subst hji; exact yieldsS_run hi hy (holdsS hb hcl hun hC) ⟨hcs hC, H⟩
    · have := ready_mono hj hji
      rw [H.1] at this
      cases this
  | succ fuel ih =>
    intro listed a w hfree hcl hr hy hC H
    have hun := getD_both (mem_ready.1 hr).1
    refine ⟨fun h => (by rw [h] at hr; cases hr), fun j hj => ?_⟩
    by_cases hji : j = i
    · subst hji; exact yieldsS_run hi hy (holdsS hb hcl hun hC) ⟨hcs hC, H⟩
    · have h1 := H.2 j (ready_mono hj hji)
      obtain ⟨hjun, oj, hoj, hall⟩ := mem_ready.1 hj
      have hnot : ∀ e ∈ oj.after, Region.binds md e = true → e.on ≠ i := fun e he hb heq => by
        have h1 := hall e he hb
        rw [heq, hun] at h1
        cases h1
      have h2 := wpOp_putS hoj (hfree j oj hoj hji hjun hnot) (fun cs b => hsel i oi cs b hi) (fun cs b => hsel j oj cs b hoj) hQ hy h1
      have hfree' : ∀ k ok, ops[k]? = some ok → k ≠ i → (listed.setIfInBounds j true).getD k true = false →
          (∀ e ∈ ok.after, Region.binds md e = true → e.on ≠ i) → oi.apart ops ok = true := fun k ok hk hki hun hno => by
        refine hfree k ok hk hki ?_ hno
        by_cases hjk : j = k
        · subst hjk; exact hjun
        · rw [getD_set_ne true hjk] at hun; exact hun
      have hun' : (listed.setIfInBounds j true).getD i false = false := by rw [getD_set_ne false hji]; exact hun
      refine wpOp_mono (fun a' w' h3 => ?_) h2
      have hC' : CS D s (listed.setIfInBounds j true) w' := fun hl => by
        refine h3.2.1 ?_
        rw [Array.setIfInBounds_comm _ _ (Ne.symm hji), getD_set_ne false (Ne.symm hsi)]
        exact hl
      refine ⟨hC', ?_⟩
      refine ih _ _ _ hfree' (closed_set hcl hj) (ready_mono hr (Ne.symm hji)) h3.1 hC' ?_
      rw [Array.setIfInBounds_comm _ _ hji]
      exact h3.2.2

theorem putS_defers (a : Act) (x : Option Tmp) (v : Value) : (a.put x v).defers = a.defers := by cases x <;> rfl
/-! The steps -/
theorem wp_region_s {id : Nat} {a : Act} {w : World} {l : List Oper} (D : World → Prop) (s : Nat) (hm : P.follows .mixedOrders = true)
    (h : wpAnyS P .any l.toArray Q D s l.length (Array.replicate l.length false) a { w with drawn := w.drawn + 1 }) : (Code.region id l.toArray true).wp P Q a w :=
  wp_region_any hm (by simpa using wpAny_of_S _ _ _ _ h)
def closedB (md : Region.Mode) (ops : Array Oper) (listed : Array Bool) : Bool :=
  (List.range ops.size).all fun j => !listed.getD j false || (match ops[j]? with | none => true | some o => o.after.all fun e => !Region.binds md e || listed.getD e.on false)
theorem closed_of {listed : Array Bool} (h : closedB md ops listed = true) : Closed md ops listed := by
  intro j oj hj hl e he hb
  have hjs : j < ops.size := (Array.getElem?_eq_some_iff.1 hj).1
  have h1 := List.all_eq_true.1 h j (List.mem_range.2 hjs)
  rw [hl, hj] at h1
  simp only [Bool.not_true, Bool.false_or] at h1
  have h2 := Array.all_eq_true'.1 h1 e he
  rw [hb] at h2
  simpa using h2
/-- number i reads what stays until it is done: it is taken first -/
theorem s_take {n : Nat} {listed : Array Bool} {a : Act} {w : World} (i : Nat) (o : Oper) (v : Value) (hi : ops[i]? = some o) (hs : Region.noSelect ops = true) (hf : Region.free .any ops listed i = true) (hr : (Region.ready .any ops listed).contains i = true)
    (hcl : closedB .any ops listed = true) (hb : behB .any ops i ops.size s = true) (hsi : s ≠ i)
    (hw : Region.wanted o (yielded ops a.tmps) = true) (hQ : ∀ c a w, Q (.panic c) (a.put o.dst v) w → Q (.panic c) a w) (hC : CS D s listed w) (h : ∀ w, D w → (execOp a.eval o).run P w = .ok (.value v) w)
    (hn : wpAnyS P .any ops Q D s n (listed.setIfInBounds i true) (a.put o.dst v) w) : wpAnyS P .any ops Q D s (n + 1) listed a w :=
  wpAnyS_first (pu := false) hi (Region.noSelect_spec hs) hQ (.inr hb) hsi n listed a w (Region.free_spec hi hf) (closed_of hcl) (by simpa using hr) ⟨hw, fun w h1 => h w (h1.resolve_left (by decide))⟩ hC hn
/-- number i only computes: it is taken first -/
theorem s_calc {n : Nat} {listed : Array Bool} {a : Act} {w : World} (i : Nat) (o : Oper) (v : Value) (hi : ops[i]? = some o) (hs : Region.noSelect ops = true) (hf : Region.free .any ops listed i = true) (hr : (Region.ready .any ops listed).contains i = true)
    (hcl : closedB .any ops listed = true) (hsi : s ≠ i)
    (hw : Region.wanted o (yielded ops a.tmps) = true) (hQ : ∀ c a w, Q (.panic c) (a.put o.dst v) w → Q (.panic c) a w) (hC : CS D s listed w) (h : ∀ w, (execOp a.eval o).run P w = .ok (.value v) w)
    (hn : wpAnyS P .any ops Q D s n (listed.setIfInBounds i true) (a.put o.dst v) w) : wpAnyS P .any ops Q D s (n + 1) listed a w :=
  wpAnyS_first (pu := true) (f0 := 0) hi (Region.noSelect_spec hs) hQ (.inl rfl) hsi n listed a w (Region.free_spec hi hf) (closed_of hcl) (by simpa using hr) ⟨hw, fun w _ => h w⟩ hC hn
/-- number i alone may come up -/
theorem s_only {n : Nat} {listed : Array Bool} {a : Act} {w : World} (i : Nat) (o : Oper) (hi : ops[i]? = some o) (hr : Region.ready .any ops listed = [i])
    (h : if Region.wanted o (yielded ops a.tmps) = true then o.wp P a w (fun a' w' => CS D s (listed.setIfInBounds i true) w' ∧ wpAnyS P .any ops Q D s n (listed.setIfInBounds i true) a' w') Q else False) : wpAnyS P .any ops Q D s (n + 1) listed a w := by
  refine ⟨fun h0 => (by rw [hr] at h0; cases h0), fun j hj => ?_⟩
  rw [hr] at hj
  obtain rfl := List.mem_singleton.1 hj
  unfold wpOp
  simp only [hi]
  by_cases hw : Region.wanted o (yielded ops a.tmps) = true
  · rw [if_pos hw] at h ⊢; exact .inl h
  · rw [if_neg hw] at h; exact h.elim
/-- numbers i and j may come up -/
theorem s_two {n : Nat} {listed : Array Bool} {a : Act} {w : World} (i j : Nat) (oi oj : Oper) (hi : ops[i]? = some oi) (hj : ops[j]? = some oj) (hr : Region.ready .any ops listed = [i, j])
    (h1 : if Region.wanted oi (yielded ops a.tmps) = true then oi.wp P a w (fun a' w' => CS D s (listed.setIfInBounds i true) w' ∧ wpAnyS P .any ops Q D s n (listed.setIfInBounds i true) a' w') Q else False)
    (h2 : if Region.wanted oj (yielded ops a.tmps) = true then oj.wp P a w (fun a' w' => CS D s (listed.setIfInBounds j true) w' ∧ wpAnyS P .any ops Q D s n (listed.setIfInBounds j true) a' w') Q else False) : wpAnyS P .any ops Q D s (n + 1) listed a w := by
  refine ⟨fun h0 => (by rw [hr] at h0; cases h0), fun k hk => ?_⟩
  rw [hr] at hk
  simp only [List.mem_cons, List.not_mem_nil, or_false] at hk
  rcases hk with rfl | rfl
  · unfold wpOp
    simp only [hi]
    by_cases hw : Region.wanted oi (yielded ops a.tmps) = true
    · rw [if_pos hw] at h1 ⊢; exact .inl h1
    · rw [if_neg hw] at h1; exact h1.elim
  · unfold wpOp
    simp only [hj]
    by_cases hw : Region.wanted oj (yielded ops a.tmps) = true
    · rw [if_pos hw] at h2 ⊢; exact .inl h2
    · rw [if_neg hw] at h2; exact h2.elim
theorem s_end {n : Nat} {listed : Array Bool} {a : Act} {w : World} (hr : Region.ready .any ops listed = []) (h : Q .normal a w) : wpAnyS P .any ops Q D s n listed a w := by
  cases n with
  | zero => exact ⟨hr, h⟩
  | succ n => exact ⟨fun _ => h, fun i hi => by rw [hr] at hi; cases hi⟩
end
end Go.Proofs.YtkfkdbmgmifopaaGreatDoor.grow
