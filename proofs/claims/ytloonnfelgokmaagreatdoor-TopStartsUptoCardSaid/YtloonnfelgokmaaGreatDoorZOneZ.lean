/- A region that draws its order and holds a call that writes or panics: as XOne; what a panic leaves (QP) must not look at what the region's operations leave. -/
import Derived.Test.YtloonnfelgokmaaGreatDoorZGrow
set_option maxRecDepth 100000
set_option maxHeartbeats 16000000
set_option linter.unusedSimpArgs false
set_option linter.unusedVariables false
namespace Go.Proofs.YtloonnfelgokmaaGreatDoor.grow
section
variable {P : Program} {ops : Array Oper} {md : Region.Mode} {QP : List PanicEntry → Act → World → Prop}
def growUponP (P : Program) (S : Value → World → Prop) (T : List PanicEntry → World → Prop) : Result Next → Prop
 | .ok (.value u) w' => S u w'
 | .ok .skip w' => S undef w'
 | .ok (.enter f args) w' => Calls P f args w' (fun e w'' => (∃ u, e = .returned u ∧ S u w'') ∨ ∃ ch, e = .panicked ch ∧ T ch w'')
 | _ => False
theorem growUponP_mono {S S' : Value → World → Prop} {T T' : List PanicEntry → World → Prop} {r : Result Next} (h : ∀ u w, S u w → S' u w) (h' : ∀ c w, T c w → T' c w) (hh : growUponP P S T r) : growUponP P S' T' r := by
 cases r with
 | ok n w' =>
  cases n <;> simp only [growUponP] at hh ⊢
  case value u => exact h _ _ hh
  case skip => exact h _ _ hh
  case enter f args => exact hh.mono fun e w'' hx => hx.imp (fun ⟨u, he, hS⟩ => ⟨u, he, h _ _ hS⟩) (fun ⟨c, he, hT⟩ => ⟨c, he, h' _ _ hT⟩)
 | halt x w' => simp only [growUponP] at hh
theorem upon_of_growP {o : Oper} {a : Act} {K : Act → World → Prop} {Q : Exit → Act → World → Prop} {S : Value → World → Prop} {T : List PanicEntry → World → Prop} {r : Result Next} (h : growUponP P S T r) (hK : ∀ u w', S u w' → K (a.put o.dst u) w') (hT : ∀ c w', T c w' → Q (.panic c) a w') : o.upon P a K Q r := by
 cases r with
 | ok n w' =>
  cases n <;> simp only [growUponP] at h <;> simp only [Oper.upon]
  case value u => exact hK _ _ h
  case skip => exact hK _ _ h
  case enter f args =>
   refine h.mono fun e w'' hx => ?_
   rcases hx with ⟨u, he, hS⟩ | ⟨c, he, hS⟩
   ·subst he; exact hK _ _ hS
   ·subst he; exact hT _ _ hS
 | halt x w' => simp only [growUponP] at h
end
open Go.RowKit
section
variable {P : Program} {ops : Array Oper} {md : Region.Mode} {J : World → Prop} {T : List PanicEntry → World → Prop}
def jOp (P : Program) (ops : Array Oper) (J : World → Prop) (T : List PanicEntry → World → Prop) (i : Nat) (K : Act → World → Prop) (a : Act) (w : World) : Prop :=
 match ops[i]? with
 | none => K a w
 | some o => (Region.wanted o (yielded ops a.tmps) = true ∧ growUponP P (fun u w' => J w' ∧ K (a.put o.dst u) w') T ((execOp a.eval o).run P w)) ∨ (Region.wanted o (yielded ops a.tmps) = false ∧ K (a.put o.dst undef) w)
def wpAnyJ (P : Program) (md : Region.Mode) (ops : Array Oper) (J : World → Prop) (T : List PanicEntry → World → Prop) (Q : Act → World → Prop) : Nat → Array Bool → Act → World → Prop
 | 0, listed, a, w => Region.ready md ops listed = [] ∧ Q a w
 | fuel + 1, listed, a, w => (Region.ready md ops listed = [] → Q a w) ∧ ∀ i ∈ Region.ready md ops listed, jOp P ops J T i (wpAnyJ P md ops J T Q fuel (listed.setIfInBounds i true)) a w
theorem wpAny_of_J {Q' : Exit → Act → World → Prop} {Q : Act → World → Prop} {D : Act → Prop} (hD : ∀ (a : Act) d v, D a → D (a.put d v)) (hQ : ∀ a w, Q a w → Q' .normal a w) (hQP : ∀ c a w, D a → T c w → Q' (.panic c) a w) : ∀ (fuel : Nat) (listed : Array Bool) (a : Act) (w : World), D a → wpAnyJ P md ops J T Q fuel listed a w → wpAny P md ops Q' fuel listed a w
 | 0, _, _, _, _, h => ⟨h.1, hQ _ _ h.2⟩
 | fuel + 1, listed, a, w, hd, h => ⟨fun h0 => hQ _ _ (h.1 h0), fun i hi => by
   have h2 := h.2 i hi
   unfold jOp at h2
   unfold wpOp
   split
   ·rename_i ho; simp only [ho] at h2; exact wpAny_of_J hD hQ hQP fuel _ _ _ hd h2
   ·rename_i o ho
    simp only [ho] at h2
    rcases h2 with ⟨hw, h2⟩ | ⟨hw, h2⟩
    ·rw [if_pos hw]; exact .inl (upon_of_growP h2 (fun u w' h3 => wpAny_of_J hD hQ hQP fuel _ _ _ (hD _ _ _ hd) h3.2) fun c w' h3 => hQP _ _ _ hd h3)
    ·rw [hw]; exact wpAny_of_J hD hQ hQP fuel _ _ _ (hD _ _ _ hd) h2⟩
theorem jOp_put {j : Nat} {oi oj : Oper} {v : Value} (hj : ops[j]? = some oj) (hap : oi.apart ops oj = true) (hsj : ∀ cs b, oj.op ≠ .select cs b) {K : Act → World → Prop} {a : Act} {w : World}
  (h : jOp P ops J T j K (a.put oi.dst v) w) : jOp P ops J T j (fun a' w' => K (a'.put oi.dst v) w') a w := by
 obtain ⟨q1, q2, q3⟩ := Oper.apart_spec hap
 unfold jOp at *
 simp only [hj] at h ⊢
 rw [execOp_put oj hsj a oi.dst v q1, wanted_put oj a oi.dst v q1] at h
 rcases h with ⟨hw, h⟩ | ⟨hw, h⟩
 ·exact .inl ⟨hw, growUponP_mono (fun u w' h3 => ⟨h3.1, by rw [← Act.put_comm a v u q2]; exact h3.2⟩) (fun c w' h3 => h3) h⟩
 ·exact .inr ⟨hw, by rw [← Act.put_comm a v undef q2]; exact h⟩
def ReadJ (P : Program) (ops : Array Oper) (J : World → Prop) (o : Oper) (a : Act) (v : Value) : Prop := Region.wanted o (yielded ops a.tmps) = true ∧ ∀ w, J w → (execOp a.eval o).run P w = .ok (.value v) w
theorem readJ_put {oi oj : Oper} {a : Act} {v u : Value} (hap : ∀ d, oj.dst = some d → d ∉ oi.looksAt ops) (hsi : ∀ cs b, oi.op ≠ .select cs b) (h : ReadJ P ops J oi a v) : ReadJ P ops J oi (a.put oj.dst u) v := by
 unfold ReadJ at *
 rw [execOp_put oi hsi a oj.dst u hap, wanted_put oi a oj.dst u hap]
 exact h
theorem readJ_run {i : Nat} {oi : Oper} {v : Value} {a : Act} {w : World} (hJ : J w) (hi : ops[i]? = some oi) (h : ReadJ P ops J oi a v) {K : Act → World → Prop} (hK : K (a.put oi.dst v) w) : jOp P ops J T i K a w := by
 unfold jOp
 simp only [hi]
 exact .inl ⟨h.1, by rw [h.2 w hJ]; exact ⟨hJ, hK⟩⟩
theorem wpAnyJ_first {Q : Act → World → Prop} {i : Nat} {oi : Oper} {v : Value} (hi : ops[i]? = some oi) (hsel : ∀ (j : Nat) (o : Oper) cs b, ops[j]? = some o → o.op ≠ .select cs b) :
  ∀ (fuel : Nat) (listed : Array Bool) (a : Act) (w : World), J w →
   (∀ j oj, ops[j]? = some oj → j ≠ i → listed.getD j true = false → (∀ e ∈ oj.after, Region.binds md e = true → e.on ≠ i) → oi.apart ops oj = true) →
   i ∈ Region.ready md ops listed → ReadJ P ops J oi a v → wpAnyJ P md ops J T Q fuel (listed.setIfInBounds i true) (a.put oi.dst v) w → wpAnyJ P md ops J T Q (fuel + 1) listed a w := by
 intro fuel
 induction fuel with
 | zero =>
  intro listed a w hJ _ hr hy H
  refine ⟨fun h => (by rw [h] at hr; cases hr), fun j hj => ?_⟩
  by_cases hji : j = i
  ·subst hji; exact readJ_run hJ hi hy H
  ·have := ready_mono hj hji
   rw [H.1] at this
   cases this
 | succ fuel ih =>
  intro listed a w hJ hfree hr hy H
  refine ⟨fun h => (by rw [h] at hr; cases hr), fun j hj => ?_⟩
  by_cases hji : j = i
  ·subst hji; exact readJ_run hJ hi hy H
  ·have h1 := H.2 j (ready_mono hj hji)
   obtain ⟨hjun, oj, hoj, hall⟩ := mem_ready.1 hj
   have hnot : ∀ e ∈ oj.after, Region.binds md e = true → e.on ≠ i := fun e he hb heq => by
    have h1 := hall e he hb
    have h0 := (mem_ready.1 hr).1
    rw [heq] at h1
    rcases Nat.lt_or_ge i listed.size with h' | h'
    ·simp [h'] at h0 h1; rw [h0] at h1; cases h1
    ·simp [Array.getElem?_eq_none h'] at h1
   have hap := hfree j oj hoj hji hjun hnot
   have h2 := jOp_put hoj hap (fun cs b => hsel j oj cs b hoj) h1
   have hfree' : ∀ k ok, ops[k]? = some ok → k ≠ i → (listed.setIfInBounds j true).getD k true = false →
     (∀ e ∈ ok.after, Region.binds md e = true → e.on ≠ i) → oi.apart ops ok = true := fun k ok hk hki hun hno => by
    refine hfree k ok hk hki ?_ hno
    by_cases hjk : j = k
    ·subst hjk; exact hjun
    ·rw [getD_set_ne true hjk] at hun; exact hun
   unfold jOp at h2 ⊢
   simp only [hoj] at h2 ⊢
   have key : ∀ u w', J w' → wpAnyJ P md ops J T Q fuel ((listed.setIfInBounds i true).setIfInBounds j true) ((a.put oj.dst u).put oi.dst v) w' → wpAnyJ P md ops J T Q (fuel + 1) (listed.setIfInBounds j true) (a.put oj.dst u) w' := fun u w' hJ' h3 => by
    refine ih _ _ _ hJ' hfree' (ready_mono hr (Ne.symm hji)) (readJ_put (Oper.apart_spec hap).2.2 (fun cs b => hsel i oi cs b hi) hy) ?_
    rw [Array.setIfInBounds_comm _ _ hji]
    exact h3
   rcases h2 with ⟨hw, h2⟩ | ⟨hw, h2⟩
   ·exact .inl ⟨hw, growUponP_mono (fun u w' h3 => ⟨h3.1, key u w' h3.1 h3.2⟩) (fun c w' h3 => h3) h2⟩
   ·exact .inr ⟨hw, key _ _ hJ h2⟩
theorem wp_region_j {id : Nat} {Q : Exit → Act → World → Prop} {a : Act} {w : World} {l : List Oper} (J : World → Prop) (T : List PanicEntry → World → Prop) (hQP : ∀ c (b : Act) w, b.defers = a.defers → T c w → Q (.panic c) b w) (hm : P.follows .mixedOrders = true)
  (h : wpAnyJ P .any l.toArray J T (fun a w => Q .normal a w) l.length (Array.replicate l.length false) a w.drew) : (Code.region id l.toArray true).wp P Q a w :=
 wp_region_any hm (wpAny_of_J (D := fun b => b.defers = a.defers) (fun b d v hb => by rw [← hb]; cases d <;> rfl) (fun _ _ h => h) hQP _ _ _ _ rfl (by simpa using h))
theorem j_read {Q : Act → World → Prop} {n : Nat} {listed : Array Bool} {a : Act} {w : World} (hJ : J w) (i : Nat) (o : Oper) (v : Value) (hi : ops[i]? = some o) (hs : Region.noSelect ops = true) (hf : Region.free .any ops listed i = true) (hr : (Region.ready .any ops listed).contains i = true)
  (hw : Region.wanted o (yielded ops a.tmps) = true) (h : ∀ w, J w → (execOp a.eval o).run P w = .ok (.value v) w) (hn : wpAnyJ P .any ops J T Q n (listed.setIfInBounds i true) (a.put o.dst v) w) : wpAnyJ P .any ops J T Q (n + 1) listed a w :=
 wpAnyJ_first hi (Region.noSelect_spec hs) n listed a w hJ (Region.free_spec hi hf) (by simpa using hr) ⟨hw, h⟩ hn
theorem j_only {Q : Act → World → Prop} {n : Nat} {listed : Array Bool} {a : Act} {w : World} (i : Nat) (o : Oper) (hi : ops[i]? = some o) (hr : Region.ready .any ops listed = [i])
  (hw : Region.wanted o (yielded ops a.tmps) = true) (h : growUponP P (fun u w' => J w' ∧ wpAnyJ P .any ops J T Q n (listed.setIfInBounds i true) (a.put o.dst u) w') T ((execOp a.eval o).run P w)) : wpAnyJ P .any ops J T Q (n + 1) listed a w := by
 refine ⟨fun h0 => (by rw [hr] at h0; cases h0), fun j hj => ?_⟩
 rw [hr] at hj
 obtain rfl := List.mem_singleton.1 hj
 unfold jOp
 simp only [hi]
 exact .inl ⟨hw, h⟩
theorem j_end {Q : Act → World → Prop} {n : Nat} {listed : Array Bool} {a : Act} {w : World} (hr : Region.ready .any ops listed = []) (h : Q a w) : wpAnyJ P .any ops J T Q n listed a w := by
 cases n with
 | zero => exact ⟨hr, h⟩
 | succ n => exact ⟨fun _ => h, fun i hi => by rw [hr] at hi; cases hi⟩
end
end Go.Proofs.YtloonnfelgokmaaGreatDoor.grow
