/- A region that draws its order and holds a call that writes: what only computes is taken first, then what reads, then the call. Conditions: each operation's own outcome; which may come up is asked of the kernel. -/
import Derived.Test.YtmbcjcicieiolaaDoorGrow
namespace Go.Proofs.YtmbcjcicieiolaaDoor.grow

section
variable {P : Program} {ops : Array Oper} {md : Region.Mode}

def uOp (P : Program) (ops : Array Oper) (i : Nat) (K : Act → World → Prop) (a : Act) (w : World) : Prop :=
  match ops[i]? with
  | none => K a w
  | some o => (Region.wanted o (yielded ops a.tmps) = true ∧ growUpon P (fun u w' => K (a.put o.dst u) w') ((execOp a.eval o).run P w)) ∨ (Region.wanted o (yielded ops a.tmps) = false ∧ K (a.put o.dst undef) w)

/-- Whatever order is picked from here on; nothing dies. -/
def wpAnyU (P : Program) (md : Region.Mode) (ops : Array Oper) (Q : Act → World → Prop) : Nat → Array Bool → Act → World → Prop
  | 0, listed, a, w => Region.ready md ops listed = [] ∧ Q a w
  | fuel + 1, listed, a, w => (Region.ready md ops listed = [] → Q a w) ∧ ∀ i ∈ Region.ready md ops listed, uOp P ops i (wpAnyU P md ops Q fuel (listed.setIfInBounds i true)) a w

theorem growUpon_mono {S T : Value → World → Prop} {r : Result Next} (h : ∀ u w, S u w → T u w) (hh : growUpon P S r) : growUpon P T r := by
  cases r with
  | ok n w' =>
    cases n <;> simp only [growUpon] at hh ⊢
    case value u => exact h _ _ hh
    case skip => exact h _ _ hh
    case enter f args => exact hh.mono fun e w'' ⟨u, he, hS⟩ => ⟨u, he, h _ _ hS⟩
  | halt x w' => simp only [growUpon] at hh

theorem wpAny_of_U {Q : Act → World → Prop} {Q' : Exit → Act → World → Prop} (hQ : ∀ a w, Q a w → Q' .normal a w) : ∀ (fuel : Nat) (listed : Array Bool) (a : Act) (w : World), wpAnyU P md ops Q fuel listed a w → wpAny P md ops Q' fuel listed a w
  | 0, _, _, _, h => ⟨h.1, hQ _ _ h.2⟩
  | fuel + 1, listed, a, w, h => ⟨fun h0 => hQ _ _ (h.1 h0), fun i hi => by
      have h2 := h.2 i hi
      unfold uOp at h2
      unfold wpOp
      split
      · rename_i ho; simp only [ho] at h2; exact wpAny_of_U hQ fuel _ _ _ h2
      · rename_i o ho
        simp only [ho] at h2
        rcases h2 with ⟨hw, h2⟩ | ⟨hw, h2⟩
        · rw [if_pos hw]; exact .inl (upon_of_grow h2 fun u w' h3 => wpAny_of_U hQ fuel _ _ _ h3)
        · rw [hw]; exact wpAny_of_U hQ fuel _ _ _ h2⟩

theorem uOp_mono {i : Nat} {K K' : Act → World → Prop} {a : Act} {w : World} (h : ∀ a w, K a w → K' a w) (hh : uOp P ops i K a w) : uOp P ops i K' a w := by
  unfold uOp at *
  split
  · rename_i ho; simp only [ho] at hh; exact h _ _ hh
  · rename_i o ho
    simp only [ho] at hh
    rcases hh with ⟨hw, hh⟩ | ⟨hw, hh⟩
    · exact .inl ⟨hw, growUpon_mono (fun _ _ h3 => h _ _ h3) hh⟩
    · exact .inr ⟨hw, h _ _ hh⟩

/-- what another operation leaves turns nothing -/
theorem uOp_put {j : Nat} {oi oj : Oper} {v : Value} (hj : ops[j]? = some oj) (hap : oi.apart ops oj = true) (hsj : ∀ cs b, oj.op ≠ .select cs b) {K : Act → World → Prop} {a : Act} {w : World}
    (h : uOp P ops j K (a.put oi.dst v) w) : uOp P ops j (fun a' w' => K (a'.put oi.dst v) w') a w := by
  obtain ⟨q1, q2, q3⟩ := Oper.apart_spec hap
  unfold uOp at *
  simp only [hj] at h ⊢
  rw [execOp_put oj hsj a oi.dst v q1, wanted_put oj a oi.dst v q1] at h
  rcases h with ⟨hw, h⟩ | ⟨hw, h⟩
  · exact .inl ⟨hw, growUpon_mono (fun u w' h3 => by rw [← Act.put_comm a v u q2]; exact h3) h⟩
  · exact .inr ⟨hw, by rw [← Act.put_comm a v undef q2]; exact h⟩

/-- the operation gives this value in every world -/
def Calc (P : Program) (ops : Array Oper) (o : Oper) (a : Act) (v : Value) : Prop := Region.wanted o (yielded ops a.tmps) = true ∧ ∀ w, (execOp a.eval o).run P w = .ok (.value v) w

theorem calc_put {oi oj : Oper} {a : Act} {v u : Value} (hap : ∀ d, oj.dst = some d → d ∉ oi.looksAt ops) (hsi : ∀ cs b, oi.op ≠ .select cs b) (h : Calc P ops oi a v) : Calc P ops oi (a.put oj.dst u) v := by
  unfold Calc at *
  rw [execOp_put oi hsi a oj.dst u hap, wanted_put oi a oj.dst u hap]
  exact h
theorem calc_run {i : Nat} {oi : Oper} {v : Value} {a : Act} {w : World} (hi : ops[i]? = some oi) (h : Calc P ops oi a v) {K : Act → World → Prop} (hK : K (a.put oi.dst v) w) : uOp P ops i K a w := by
  unfold uOp
  simp only [hi]
  exact .inl ⟨h.1, by rw [h.2 w]; exact hK⟩

/-- AN OPERATION THAT ONLY COMPUTES AND MAY COME UP MAY BE TAKEN FIRST. -/
theorem wpAnyU_first {Q : Act → World → Prop} {i : Nat} {oi : Oper} {v : Value} (hi : ops[i]? = some oi) (hsel : ∀ (j : Nat) (o : Oper) cs b, ops[j]? = some o → o.op ≠ .select cs b) :
    ∀ (fuel : Nat) (listed : Array Bool) (a : Act) (w : World),
      (∀ j oj, ops[j]? = some oj → j ≠ i → listed.getD j true = false → (∀ e ∈ oj.after, Region.binds md e = true → e.on ≠ i) → oi.apart ops oj = true) →
      i ∈ Region.ready md ops listed → Calc P ops oi a v → wpAnyU P md ops Q fuel (listed.setIfInBounds i true) (a.put oi.dst v) w → wpAnyU P md ops Q (fuel + 1) listed a w := by
  intro fuel
  induction fuel with
  | zero =>
    intro listed a w _ hr hy H
    refine ⟨fun h => (by rw [h] at hr; cases hr), fun j hj => ?_⟩
    by_cases hji : j = i
    · subst hji; exact calc_run hi hy H
    · have := ready_mono hj hji
      rw [H.1] at this
      cases this
  | succ fuel ih =>
    intro listed a w hfree hr hy H
    refine ⟨fun h => (by rw [h] at hr; cases hr), fun j hj => ?_⟩
    by_cases hji : j = i
    · subst hji; exact calc_run hi hy H
    · have h1 := H.2 j (ready_mono hj hji)
      obtain ⟨hjun, oj, hoj, hall⟩ := mem_ready.1 hj
      have hnot : ∀ e ∈ oj.after, Region.binds md e = true → e.on ≠ i := fun e he hb heq => by
        have h1 := hall e he hb
        have h0 := (mem_ready.1 hr).1
        rw [heq] at h1
        rcases Nat.lt_or_ge i listed.size with h' | h'
        · simp [h'] at h0 h1; rw [h0] at h1; cases h1
        · simp [Array.getElem?_eq_none h'] at h1
      have hap := hfree j oj hoj hji hjun hnot
      have h2 := uOp_put hoj hap (fun cs b => hsel j oj cs b hoj) h1
      have hfree' : ∀ k ok, ops[k]? = some ok → k ≠ i → (listed.setIfInBounds j true).getD k true = false →
          (∀ e ∈ ok.after, Region.binds md e = true → e.on ≠ i) → oi.apart ops ok = true := fun k ok hk hki hun hno => by
        refine hfree k ok hk hki ?_ hno
        by_cases hjk : j = k
        · subst hjk; exact hjun
        · rw [getD_set_ne true hjk] at hun; exact hun
      unfold uOp at h2 ⊢
      simp only [hoj] at h2 ⊢
      have key : ∀ u w', wpAnyU P md ops Q fuel ((listed.setIfInBounds i true).setIfInBounds j true) ((a.put oj.dst u).put oi.dst v) w' → wpAnyU P md ops Q (fuel + 1) (listed.setIfInBounds j true) (a.put oj.dst u) w' := fun u w' h3 => by
        refine ih _ _ _ hfree' (ready_mono hr (Ne.symm hji)) (calc_put (Oper.apart_spec hap).2.2 (fun cs b => hsel i oi cs b hi) hy) ?_
        rw [Array.setIfInBounds_comm _ _ hji]
        exact h3
      rcases h2 with ⟨hw, h2⟩ | ⟨hw, h2⟩
      · exact .inl ⟨hw, growUpon_mono (fun u w' h3 => key u w' h3) h2⟩
      · exact .inr ⟨hw, key _ _ h2⟩

/-! The steps -/
theorem wp_region_one {id : Nat} {Q : Exit → Act → World → Prop} {a : Act} {w : World} {l : List Oper} (hm : P.follows .mixedOrders = true)
    (h : wpAnyU P .any l.toArray (fun a w => Q .normal a w) l.length (Array.replicate l.length false) a { w with drawn := w.drawn + 1 }) : (Code.region id l.toArray true).wp P Q a w :=
  wp_region_any hm (wpAny_of_U (fun _ _ h => h) _ _ _ _ (by simpa using h))

/-- number i only computes: it is taken first -/
theorem u_calc {Q : Act → World → Prop} {n : Nat} {listed : Array Bool} {a : Act} {w : World} (i : Nat) (o : Oper) (v : Value) (hi : ops[i]? = some o) (hs : Region.noSelect ops = true) (hf : Region.free .any ops listed i = true) (hr : (Region.ready .any ops listed).contains i = true)
    (hw : Region.wanted o (yielded ops a.tmps) = true) (h : ∀ w, (execOp a.eval o).run P w = .ok (.value v) w) (hn : wpAnyU P .any ops Q n (listed.setIfInBounds i true) (a.put o.dst v) w) : wpAnyU P .any ops Q (n + 1) listed a w :=
  wpAnyU_first hi (Region.noSelect_spec hs) n listed a w (Region.free_spec hi hf) (by simpa using hr) ⟨hw, h⟩ hn
/-- number i alone may come up -/
theorem u_only {Q : Act → World → Prop} {n : Nat} {listed : Array Bool} {a : Act} {w : World} (i : Nat) (o : Oper) (hi : ops[i]? = some o) (hr : Region.ready .any ops listed = [i])
    (hw : Region.wanted o (yielded ops a.tmps) = true) (h : growUpon P (fun u w' => wpAnyU P .any ops Q n (listed.setIfInBounds i true) (a.put o.dst u) w') ((execOp a.eval o).run P w)) : wpAnyU P .any ops Q (n + 1) listed a w := by
  refine ⟨fun h0 => (by rw [hr] at h0; cases h0), fun j hj => ?_⟩
  rw [hr] at hj
  obtain rfl := List.mem_singleton.1 hj
  unfold uOp
  simp only [hi]
  exact .inl ⟨hw, h⟩
/-- numbers i and j may come up, and both read -/
theorem u_two {Q : Act → World → Prop} {n : Nat} {listed : Array Bool} {a : Act} {w : World} (i j : Nat) (oi oj : Oper) (vi vj : Value) (hi : ops[i]? = some oi) (hj : ops[j]? = some oj) (hij : i ≠ j) (hs : Region.noSelect ops = true)
    (hr : Region.ready .any ops listed = [i, j]) (hri : Region.ready .any ops (listed.setIfInBounds i true) = [j]) (hrj : Region.ready .any ops (listed.setIfInBounds j true) = [i]) (hap : oi.apart ops oj = true)
    (hwi : Region.wanted oi (yielded ops a.tmps) = true) (hwj : Region.wanted oj (yielded ops a.tmps) = true)
    (h1 : (execOp a.eval oi).run P w = .ok (.value vi) w) (h2 : (execOp a.eval oj).run P w = .ok (.value vj) w)
    (hn : wpAnyU P .any ops Q n ((listed.setIfInBounds i true).setIfInBounds j true) ((a.put oi.dst vi).put oj.dst vj) w) : wpAnyU P .any ops Q (n + 2) listed a w := by
  obtain ⟨q1, q2, q3⟩ := Oper.apart_spec hap
  have hsi := fun cs b => Region.noSelect_spec hs i oi cs b hi
  have hsj := fun cs b => Region.noSelect_spec hs j oj cs b hj
  refine ⟨fun h0 => (by rw [hr] at h0; cases h0), fun k hk => ?_⟩
  rw [hr] at hk
  simp only [List.mem_cons, List.not_mem_nil, or_false] at hk
  rcases hk with rfl | rfl
  · unfold uOp
    simp only [hi]
    refine .inl ⟨hwi, ?_⟩
    rw [h1]
    refine u_only j oj hj hri (by rw [wanted_put oj a oi.dst vi q1]; exact hwj) ?_
    rw [execOp_put oj hsj a oi.dst vi q1, h2]
    exact hn
  · unfold uOp
    simp only [hj]
    refine .inl ⟨hwj, ?_⟩
    rw [h2]
    refine u_only i oi hi hrj (by rw [wanted_put oi a oj.dst vj q3]; exact hwi) ?_
    rw [execOp_put oi hsi a oj.dst vj q3, h1]
    show wpAnyU P .any ops Q n ((listed.setIfInBounds k true).setIfInBounds i true) ((a.put oj.dst vj).put oi.dst vi) w
    rw [Array.setIfInBounds_comm _ _ (Ne.symm hij), ← Act.put_comm a vi vj q2]
    exact hn
theorem u_end {Q : Act → World → Prop} {n : Nat} {listed : Array Bool} {a : Act} {w : World} (hr : Region.ready .any ops listed = []) (h : Q a w) : wpAnyU P .any ops Q n listed a w := by
  cases n with
  | zero => exact ⟨hr, h⟩
  | succ n => exact ⟨fun _ => h, fun i hi => by rw [hr] at hi; cases hi⟩
end
end Go.Proofs.YtmbcjcicieiolaaDoor.grow
