/- A region that draws its order: what only computes, or reads what one of its operations turns but only behind it, is taken first; then what alone may come up, or two side by side. Conditions: each operation's own outcome; which may come up, and what stands behind what, is asked of the kernel. -/
import Derived.Test.YtloonnfelgokmaaGreatDoorZGrow
import Derived.StillTail
set_option maxRecDepth 100000
set_option maxHeartbeats 16000000
set_option linter.unusedSimpArgs false
set_option linter.unusedVariables false
namespace Go.Proofs.YtloonnfelgokmaaGreatDoor.grow
open RowKit
section
variable {P : Program} {ops : Array Oper} {md : Region.Mode} {Q : Exit → Act → World → Prop} {D : World → Prop} {s : Nat} {pu : Bool}
def CS (D : World → Prop) (s : Nat) (listed : Array Bool) (w : World) : Prop := listed.getD s false = false → D w
def Closed (md : Region.Mode) (ops : Array Oper) (listed : Array Bool) : Prop := ∀ j oj, ops[j]? = some oj → listed.getD j false = true → ∀ e ∈ oj.after, Region.binds md e = true → listed.getD e.on false = true
def behB (md : Region.Mode) (ops : Array Oper) (i : Nat) : Nat → Nat → Bool
 | 0, _ => false
 | f + 1, s => match ops[s]? with
  | none => false
  | some o => o.after.any fun e => Region.binds md e && (e.on == i || behB md ops i f e.on)
theorem behind {i : Nat} : ∀ {f s : Nat} {listed : Array Bool}, Closed md ops listed → behB md ops i f s = true → listed.getD i false = false → listed.getD s false = false
 | 0, _, _, _, h, _ => by cases h
 | f + 1, s, listed, hc, h, hi => by
  unfold behB at h
  split at h
  ·cases h
  ·rename_i o ho
   obtain ⟨e, he, hb⟩ := Array.any_eq_true'.1 h
   simp only [Bool.and_eq_true, Bool.or_eq_true, beq_iff_eq] at hb
   cases hs : listed.getD s false with
   | false => rfl
   | true =>
    have h1 := hc s o ho hs e he hb.1
    rcases hb.2 with h2 | h2
    ·rw [h2, hi] at h1; cases h1
    ·rw [behind hc h2 hi] at h1; cases h1
theorem closed_set {i : Nat} {listed : Array Bool} (hc : Closed md ops listed) (hi : i ∈ Region.ready md ops listed) : Closed md ops (listed.setIfInBounds i true) := by
 obtain ⟨_, oi, hoi, hall⟩ := mem_ready.1 hi
 intro j oj hj hl e he hb
 by_cases hij : i = j
 ·subst hij
  have : oj = oi := Option.some.inj (hj.symm.trans hoi)
  subst this
  exact getD_set_true (hall e he hb)
 ·rw [getD_set_ne false hij] at hl
  exact getD_set_true (hc j oj hj hl e he hb)
def wpAnyS (P : Program) (md : Region.Mode) (ops : Array Oper) (Q : Exit → Act → World → Prop) (D : World → Prop) (s : Nat) : Nat → Array Bool → Act → World → Prop
 | 0, listed, a, w => Region.ready md ops listed = [] ∧ Q .normal a w
 | f + 1, listed, a, w => (Region.ready md ops listed = [] → Q .normal a w) ∧ ∀ i ∈ Region.ready md ops listed, wpOp P ops Q i (fun a' w' => CS D s (listed.setIfInBounds i true) w' ∧ wpAnyS P md ops Q D s f (listed.setIfInBounds i true) a' w') a w
theorem wpAny_of_S : ∀ (f : Nat) (listed : Array Bool) (a : Act) (w : World), wpAnyS P md ops Q D s f listed a w → wpAny P md ops Q f listed a w
 | 0, _, _, _, h => h
 | f + 1, _, _, _, h => ⟨h.1, fun i hi => wpOp_mono (fun a' w' h' => wpAny_of_S f _ a' w' h'.2) (h.2 i hi)⟩
def YieldsS (P : Program) (ops : Array Oper) (D : World → Prop) (pu : Bool) (o : Oper) (v : Value) (a : Act) : Prop :=
 Region.wanted o (yielded ops a.tmps) = true ∧ ∀ w, (pu = true ∨ D w) → (execOp a.eval o).run P w = .ok (.value v) w
theorem upon_putS {o : Oper} {d : Option Tmp} {v : Value} {a : Act} {Y : Act → Prop} {K : Act → World → Prop} {r : Result Next} (hne : ∀ e, o.dst = some e → d ≠ some e) (hput : ∀ u, (a.put d v).put o.dst u = (a.put o.dst u).put d v)
  (hQ : ∀ c w, Q (.panic c) (a.put d v) w → Q (.panic c) a w) (hY : ∀ u, Y (a.put o.dst u)) (hD : ∀ x, Y (({ a with defers := x :: a.defers } : Act).put o.dst undef) ∧ ({ (a.put d v) with defers := x :: (a.put d v).defers } : Act).put o.dst undef = (({ a with defers := x :: a.defers } : Act).put o.dst undef).put d v)
  (h : o.upon P (a.put d v) K Q r) : o.upon P a (fun a' w' => Y a' ∧ K (a'.put d v) w') Q r := by
 cases r with
 | ok n w' =>
  cases n
  case value u => exact ⟨hY u, by have h' : K ((a.put d v).put o.dst u) w' := h; rw [hput] at h'; exact h'⟩
  case skip => exact ⟨hY _, by have h' : K ((a.put d v).put o.dst undef) w' := h; rw [hput] at h'; exact h'⟩
  case defer x => exact ⟨(hD x).1, by have h' : K _ w' := h; rw [(hD x).2] at h'; exact h'⟩
  case enter f args =>
   simp only [Oper.upon] at h ⊢
   refine Calls.mono h fun e w'' he => ?_
   cases e with
   | returned u => exact ⟨hY u, by have h' : K ((a.put d v).put o.dst u) w'' := he; rw [hput] at h'; exact h'⟩
   | panicked c => exact hQ _ _ he
   | outgrown => exact he
  case row row args =>
   simp only [Oper.upon] at h ⊢
   exact Rows.mono h fun u w'' he => ⟨hY u, by have h' : K ((a.put d v).put o.dst u) w'' := he; rw [hput] at h'; exact h'⟩
  all_goals (simp only [Oper.upon] at h)
 | halt x w' =>
  cases x <;> simp only [Oper.upon] at h ⊢
  case panic u => exact hQ _ _ h
theorem wpOp_putS {j : Nat} {oi oj : Oper} {v : Value} (hj : ops[j]? = some oj) (hap : oi.apart ops oj = true) (hsi : ∀ cs b, oi.op ≠ .select cs b) (hsj : ∀ cs b, oj.op ≠ .select cs b)
  (hQ : ∀ c a w, Q (.panic c) (a.put oi.dst v) w → Q (.panic c) a w) {K : Act → World → Prop} {a : Act} {w : World} (hy : YieldsS P ops D pu oi v a) (h : wpOp P ops Q j K (a.put oi.dst v) w) :
  wpOp P ops Q j (fun a' w' => YieldsS P ops D pu oi v a' ∧ K (a'.put oi.dst v) w') a w := by
 obtain ⟨q1, q2, q3⟩ := Oper.apart_spec hap
 have keep : ∀ a', YieldsS P ops D pu oi v a' → ∀ u, YieldsS P ops D pu oi v (a'.put oj.dst u) := fun a' hy u => by
  unfold YieldsS at *
  rw [execOp_put oi hsi a' oj.dst u q3, wanted_put oi a' oj.dst u q3]
  exact hy
 unfold wpOp at *
 simp only [hj] at *
 rw [wanted_put oj a oi.dst v q1] at h
 by_cases hw : Region.wanted oj (yielded ops a.tmps) = true
 ·rw [if_pos hw] at h ⊢
  rcases h with h | ⟨h1, h2⟩
  ·refine .inl ?_
   unfold Oper.wp at *
   rw [execOp_put oj hsj a oi.dst v q1] at h
   refine upon_putS (fun e he hd => ?_) (fun u => (Act.put_comm a v u q2).symm ▸ rfl) (fun c w => hQ c a w) (keep a hy) (fun x => ⟨keep ({ a with defers := x :: a.defers } : Act) hy _, ?_⟩) h
   ·exact q2 e (by rw [hd]) he
   ·rw [Act.put_defers, Act.put_comm _ v undef q2]
  ·exact .inr ⟨by unfold Oper.asks at *; rw [execOp_put oj hsj a oi.dst v q1] at h1; exact h1, h2⟩
 ·rw [if_neg hw] at h ⊢
  exact ⟨keep a hy _, by rw [← Act.put_comm a v undef q2]; exact h⟩
theorem yieldsS_run {i : Nat} {oi : Oper} {v : Value} {a : Act} {w : World} (hi : ops[i]? = some oi) (h : YieldsS P ops D pu oi v a) (hC : pu = true ∨ D w) {K : Act → World → Prop} (hK : K (a.put oi.dst v) w) : wpOp P ops Q i K a w := by
 unfold wpOp
 simp only [hi]
 rw [if_pos h.1]
 refine .inl ?_
 unfold Oper.wp
 rw [h.2 w hC]
 exact hK
theorem holdsS {i : Nat} {listed : Array Bool} {w : World} {f : Nat} (hb : pu = true ∨ behB md ops i f s = true) (hcl : Closed md ops listed) (hun : listed.getD i false = false) (hC : CS D s listed w) : pu = true ∨ D w := by
 rcases hb with h | h
 ·exact .inl h
 ·exact .inr (hC (behind hcl h hun))
theorem wpAnyS_first {i f0 : Nat} {oi : Oper} {v : Value} (hi : ops[i]? = some oi) (hsel : ∀ (j : Nat) (o : Oper) cs b, ops[j]? = some o → o.op ≠ .select cs b) (hQ : ∀ c a w, Q (.panic c) (a.put oi.dst v) w → Q (.panic c) a w)
  (hb : pu = true ∨ behB md ops i f0 s = true) (hsi : s ≠ i) :
  ∀ (fuel : Nat) (listed : Array Bool) (a : Act) (w : World),
   (∀ j oj, ops[j]? = some oj → j ≠ i → listed.getD j true = false → (∀ e ∈ oj.after, Region.binds md e = true → e.on ≠ i) → oi.apart ops oj = true) →
   Closed md ops listed → i ∈ Region.ready md ops listed → YieldsS P ops D pu oi v a → CS D s listed w → wpAnyS P md ops Q D s fuel (listed.setIfInBounds i true) (a.put oi.dst v) w → wpAnyS P md ops Q D s (fuel + 1) listed a w := by
 have hcs : ∀ {listed : Array Bool} {w : World}, CS D s listed w → CS D s (listed.setIfInBounds i true) w := fun {listed w} h hl => h (by
  cases hs : listed.getD s false with
  | false => rfl
  | true => rw [getD_set_true hs] at hl; cases hl)
 intro fuel
 induction fuel with
 | zero =>
  intro listed a w _ hcl hr hy hC H
  have hun := getD_both (mem_ready.1 hr).1
  refine ⟨fun h => (by rw [h] at hr; cases hr), fun j hj => ?_⟩
  by_cases hji : j = i
  ·subst hji; exact yieldsS_run hi hy (holdsS hb hcl hun hC) ⟨hcs hC, H⟩
  ·have := ready_mono hj hji
   rw [H.1] at this
   cases this
 | succ fuel ih =>
  intro listed a w hfree hcl hr hy hC H
  have hun := getD_both (mem_ready.1 hr).1
  refine ⟨fun h => (by rw [h] at hr; cases hr), fun j hj => ?_⟩
  by_cases hji : j = i
  ·subst hji; exact yieldsS_run hi hy (holdsS hb hcl hun hC) ⟨hcs hC, H⟩
  ·have h1 := H.2 j (ready_mono hj hji)
   obtain ⟨hjun, oj, hoj, hall⟩ := mem_ready.1 hj
   have hnot : ∀ e ∈ oj.after, Region.binds md e = true → e.on ≠ i := fun e he hb heq => by
    have h1 := hall e he hb
    rw [heq, hun] at h1
    cases h1
   have h2 := wpOp_putS hoj (hfree j oj hoj hji hjun hnot) (fun cs b => hsel i oi cs b hi) (fun cs b => hsel j oj cs b hoj) hQ hy h1
   have hfree' : ∀ k ok, ops[k]? = some ok → k ≠ i → (listed.setIfInBounds j true).getD k true = false →
     (∀ e ∈ ok.after, Region.binds md e = true → e.on ≠ i) → oi.apart ops ok = true := fun k ok hk hki hun hno => by
    refine hfree k ok hk hki ?_ hno
    by_cases hjk : j = k
    ·subst hjk; exact hjun
    ·rw [getD_set_ne true hjk] at hun; exact hun
   have hun' : (listed.setIfInBounds j true).getD i false = false := by rw [getD_set_ne false hji]; exact hun
   refine wpOp_mono (fun a' w' h3 => ?_) h2
   have hC' : CS D s (listed.setIfInBounds j true) w' := fun hl => by
    refine h3.2.1 ?_
    rw [Array.setIfInBounds_comm _ _ (Ne.symm hji), getD_set_ne false (Ne.symm hsi)]
    exact hl
   refine ⟨hC', ?_⟩
   refine ih _ _ _ hfree' (closed_set hcl hj) (ready_mono hr (Ne.symm hji)) h3.1 hC' ?_
   rw [Array.setIfInBounds_comm _ _ hji]
   exact h3.2.2
theorem putS_defers (a : Act) (x : Option Tmp) (v : Value) : (a.put x v).defers = a.defers := by cases x <;> rfl
theorem wp_region_s {id : Nat} {a : Act} {w : World} {l : List Oper} (D : World → Prop) (s : Nat) (hm : P.follows .mixedOrders = true)
  (h : wpAnyS P .any l.toArray Q D s l.length (Array.replicate l.length false) a { w with drawn := w.drawn + 1 }) : (Code.region id l.toArray true).wp P Q a w :=
 wp_region_any hm (by simpa using wpAny_of_S _ _ _ _ h)
def closedB (md : Region.Mode) (ops : Array Oper) (listed : Array Bool) : Bool :=
 (List.range ops.size).all fun j => !listed.getD j false || (match ops[j]? with | none => true | some o => o.after.all fun e => !Region.binds md e || listed.getD e.on false)
theorem closed_of {listed : Array Bool} (h : closedB md ops listed = true) : Closed md ops listed := by
 intro j oj hj hl e he hb
 have hjs : j < ops.size := (zh hj).1
 have h1 := List.all_eq_true.1 h j (List.mem_range.2 hjs)
 rw [hl, hj] at h1
 simp only [Bool.not_true, Bool.false_or] at h1
 have h2 := Array.all_eq_true'.1 h1 e he
 rw [hb] at h2
 simpa using h2
theorem s_take {n : Nat} {listed : Array Bool} {a : Act} {w : World} (i : Nat) (o : Oper) (v : Value) (hi : ops[i]? = some o) (hs : Region.noSelect ops = true) (hf : Region.free .any ops listed i = true) (hr : (Region.ready .any ops listed).contains i = true)
  (hcl : closedB .any ops listed = true) (hb : behB .any ops i ops.size s = true) (hsi : s ≠ i)
  (hw : Region.wanted o (yielded ops a.tmps) = true) (hQ : ∀ c a w, Q (.panic c) (a.put o.dst v) w → Q (.panic c) a w) (hC : CS D s listed w) (h : ∀ w, D w → (execOp a.eval o).run P w = .ok (.value v) w)
  (hn : wpAnyS P .any ops Q D s n (listed.setIfInBounds i true) (a.put o.dst v) w) : wpAnyS P .any ops Q D s (n + 1) listed a w :=
 wpAnyS_first (pu := false) hi (Region.noSelect_spec hs) hQ (.inr hb) hsi n listed a w (Region.free_spec hi hf) (closed_of hcl) (by simpa using hr) ⟨hw, fun w h1 => h w (h1.resolve_left (by decide))⟩ hC hn
theorem s_calc {n : Nat} {listed : Array Bool} {a : Act} {w : World} (i : Nat) (o : Oper) (v : Value) (hi : ops[i]? = some o) (hs : Region.noSelect ops = true) (hf : Region.free .any ops listed i = true) (hr : (Region.ready .any ops listed).contains i = true)
  (hcl : closedB .any ops listed = true) (hsi : s ≠ i)
  (hw : Region.wanted o (yielded ops a.tmps) = true) (hQ : ∀ c a w, Q (.panic c) (a.put o.dst v) w → Q (.panic c) a w) (hC : CS D s listed w) (h : ∀ w, (execOp a.eval o).run P w = .ok (.value v) w)
  (hn : wpAnyS P .any ops Q D s n (listed.setIfInBounds i true) (a.put o.dst v) w) : wpAnyS P .any ops Q D s (n + 1) listed a w :=
 wpAnyS_first (pu := true) (f0 := 0) hi (Region.noSelect_spec hs) hQ (.inl rfl) hsi n listed a w (Region.free_spec hi hf) (closed_of hcl) (by simpa using hr) ⟨hw, fun w _ => h w⟩ hC hn
theorem zsc {n : Nat} {listed : Array Bool} {a : Act} {w : World} (i : Nat) (o : Oper) (v : Value) (hi : ops[i]? = some o) (hC : CS D s listed w) (h : ∀ w, (execOp a.eval o).run P w = .ok (.value v) w)
 (hn : wpAnyS P .any ops Q D s n (listed.setIfInBounds i true) (a.put o.dst v) w) (hs : Region.noSelect ops = true := by kernel_rfl) (hf : Region.free .any ops listed i = true := by kernel_rfl) (hr : (Region.ready .any ops listed).contains i = true := by kernel_rfl)
 (hcl : closedB .any ops listed = true := by kernel_rfl) (hsi : s ≠ i := by decide) (hw : Region.wanted o (yielded ops a.tmps) = true := by rfl) (hQ : ∀ c a w, Q (.panic c) (a.put o.dst v) w → Q (.panic c) a w := by exact fun c a' w' h => ⟨(putS_defers _ _ _).symm.trans h.1, h.2⟩) : wpAnyS P .any ops Q D s (n + 1) listed a w :=
 s_calc i o v hi hs hf hr hcl hsi hw hQ hC h hn
theorem zsd {n : Nat} {listed : Array Bool} {a : Act} {w : World} (i : Nat) (o : Oper) (v : Value) (hi : ops[i]? = some o) (hC : CS D s listed w)
 (hn : wpAnyS P .any ops Q D s n (listed.setIfInBounds i true) (a.put o.dst v) w) (hs : Region.noSelect ops = true := by kernel_rfl) (hf : Region.free .any ops listed i = true := by kernel_rfl) (hr : (Region.ready .any ops listed).contains i = true := by kernel_rfl)
 (hcl : closedB .any ops listed = true := by kernel_rfl) (hsi : s ≠ i := by decide) (hw : Region.wanted o (yielded ops a.tmps) = true := by rfl) (hQ : ∀ c a w, Q (.panic c) (a.put o.dst v) w → Q (.panic c) a w := by exact fun c a' w' h => ⟨(putS_defers _ _ _).symm.trans h.1, h.2⟩) (h : ∀ w, (execOp a.eval o).run P w = .ok (.value v) w := by intro u; go_simp; rfl) : wpAnyS P .any ops Q D s (n + 1) listed a w :=
 s_calc i o v hi hs hf hr hcl hsi hw hQ hC h hn
theorem zst {n : Nat} {listed : Array Bool} {a : Act} {w : World} (i : Nat) (o : Oper) (v : Value) (hi : ops[i]? = some o) (hC : CS D s listed w) (h : ∀ w, D w → (execOp a.eval o).run P w = .ok (.value v) w)
 (hn : wpAnyS P .any ops Q D s n (listed.setIfInBounds i true) (a.put o.dst v) w) (hs : Region.noSelect ops = true := by kernel_rfl) (hf : Region.free .any ops listed i = true := by kernel_rfl) (hr : (Region.ready .any ops listed).contains i = true := by kernel_rfl)
 (hcl : closedB .any ops listed = true := by kernel_rfl) (hb : behB .any ops i ops.size s = true := by kernel_rfl) (hsi : s ≠ i := by decide) (hw : Region.wanted o (yielded ops a.tmps) = true := by rfl) (hQ : ∀ c a w, Q (.panic c) (a.put o.dst v) w → Q (.panic c) a w := by exact fun c a' w' h => ⟨(putS_defers _ _ _).symm.trans h.1, h.2⟩) : wpAnyS P .any ops Q D s (n + 1) listed a w :=
 s_take i o v hi hs hf hr hcl hb hsi hw hQ hC h hn
theorem s_only {n : Nat} {listed : Array Bool} {a : Act} {w : World} (i : Nat) (o : Oper) (hi : ops[i]? = some o) (hr : Region.ready .any ops listed = [i])
  (h : if Region.wanted o (yielded ops a.tmps) = true then o.wp P a w (fun a' w' => CS D s (listed.setIfInBounds i true) w' ∧ wpAnyS P .any ops Q D s n (listed.setIfInBounds i true) a' w') Q else False) : wpAnyS P .any ops Q D s (n + 1) listed a w := by
 refine ⟨fun h0 => (by rw [hr] at h0; cases h0), fun j hj => ?_⟩
 rw [hr] at hj
 obtain rfl := List.mem_singleton.1 hj
 unfold wpOp
 simp only [hi]
 by_cases hw : Region.wanted o (yielded ops a.tmps) = true
 ·rw [if_pos hw] at h ⊢; exact .inl h
 ·rw [if_neg hw] at h; exact h.elim
theorem s_two {n : Nat} {listed : Array Bool} {a : Act} {w : World} (i j : Nat) (oi oj : Oper) (hi : ops[i]? = some oi) (hj : ops[j]? = some oj) (hr : Region.ready .any ops listed = [i, j])
  (h1 : if Region.wanted oi (yielded ops a.tmps) = true then oi.wp P a w (fun a' w' => CS D s (listed.setIfInBounds i true) w' ∧ wpAnyS P .any ops Q D s n (listed.setIfInBounds i true) a' w') Q else False)
  (h2 : if Region.wanted oj (yielded ops a.tmps) = true then oj.wp P a w (fun a' w' => CS D s (listed.setIfInBounds j true) w' ∧ wpAnyS P .any ops Q D s n (listed.setIfInBounds j true) a' w') Q else False) : wpAnyS P .any ops Q D s (n + 1) listed a w := by
 refine ⟨fun h0 => (by rw [hr] at h0; cases h0), fun k hk => ?_⟩
 rw [hr] at hk
 simp only [List.mem_cons, List.not_mem_nil, or_false] at hk
 rcases hk with rfl | rfl
 ·unfold wpOp
  simp only [hi]
  by_cases hw : Region.wanted oi (yielded ops a.tmps) = true
  ·rw [if_pos hw] at h1 ⊢; exact .inl h1
  ·rw [if_neg hw] at h1; exact h1.elim
 ·unfold wpOp
  simp only [hj]
  by_cases hw : Region.wanted oj (yielded ops a.tmps) = true
  ·rw [if_pos hw] at h2 ⊢; exact .inl h2
  ·rw [if_neg hw] at h2; exact h2.elim
theorem s_end {n : Nat} {listed : Array Bool} {a : Act} {w : World} (hr : Region.ready .any ops listed = []) (h : Q .normal a w) : wpAnyS P .any ops Q D s n listed a w := by
 cases n with
 | zero => exact ⟨hr, h⟩
 | succ n => exact ⟨fun _ => h, fun i hi => by rw [hr] at hi; cases hi⟩
end
section
variable {P : Program} {ops : Array Oper} {md : Region.Mode} {E : World → World → Prop} {C : World → Prop} {rel : Nat → Option (Value → World → Prop)} {p : Nat} {CH : List PanicEntry}
theorem put_defers (a : Act) (x : Option Tmp) (v : Value) : (a.put x v).defers = a.defers := by cases x <;> rfl
end
section
variable {P : Program} {ops : Array Oper} {md : Region.Mode} {E : World → World → Prop} {C : World → Prop} {rel : Nat → Option (Value → World → Prop)}
def sinkFrom (md : Region.Mode) (ops : Array Oper) (n k0 : Nat) : Bool :=
 (List.range n).all fun i => decide (i < k0) || (List.range (n + 1)).any fun j => decide (i < j) && Region.waitsFor md ops j i
theorem tail_waitsF {n k0 : Nat} {listed : Array Bool} (hs : sinkFrom md ops n k0 = true) (hc : Region.chainB md ops n = true) (inv : HeadInv md ops n listed) :
  ∀ (d i : Nat), n - i = d → k0 ≤ i → i < n → listed.getD i true = false → ∀ t, n ≤ t → t ∉ Region.ready md ops listed := by
 intro d
 induction d using Nat.strongRecOn with
 | _ d ih =>
  intro i hd hk hi hun t ht hr
  obtain ⟨htun, ot, hot, hall⟩ := mem_ready.1 hr
  have htl : t < ops.size := (zh hot).1
  rcases Nat.lt_or_ge n t with hlt | hge
  ·have h1 := List.all_eq_true.1 hc t (List.mem_range.2 htl)
   rw [Bool.or_eq_true, decide_eq_true_eq] at h1
   obtain ⟨o', ho', e, he, hb, hon⟩ := Region.waitsFor_spec (h1.resolve_left (by omega))
   have hoo : o' = ot := Option.some.inj (ho'.symm.trans hot)
   rw [hoo] at he
   have h2 := hall e he hb
   rw [hon, getD_both (inv.tail (t - 1) (by omega) (by omega))] at h2
   cases h2
  ·have htn : t = n := Nat.le_antisymm hge ht
   have h1 := List.all_eq_true.1 hs i (List.mem_range.2 hi)
   rw [Bool.or_eq_true, decide_eq_true_eq] at h1
   obtain ⟨j, hj, hj2⟩ := List.any_eq_true.1 (h1.resolve_left (by omega))
   rw [Bool.and_eq_true, decide_eq_true_eq] at hj2
   obtain ⟨o', ho', e, he, hb, hon⟩ := Region.waitsFor_spec hj2.2
   have hjn := List.mem_range.1 hj
   have hjl : j < ops.size := (zh ho').1
   by_cases hjt : j = t
   ·rw [hjt] at ho'
    have hoo : o' = ot := Option.some.inj (ho'.symm.trans hot)
    rw [hoo] at he
    have h2 := hall e he hb
    rw [hon, getD_both hun] at h2
    cases h2
   ·have hun2 : listed.getD j true = false := by
     refine getD_in (by rw [inv.size]; exact hjl) ?_
     cases hl : listed.getD j false with
     | false => rfl
     | true =>
      have h2 := inv.closed j o' ho' hl e he hb
      rw [hon, getD_both hun] at h2
      cases h2
    exact ih (n - j) (by omega) j rfl (by omega) (by omega) hun2 t ht hr
theorem wpAnyH_firstF {n i k0 : Nat} {oi : Oper} {Ri : Value → World → Prop} {L : Array Bool → Act → Facts → Prop} (ft : Fit E C rel) (hi : ops[i]? = some oi) (hsel : ∀ (j : Nat) (o : Oper) cs b, ops[j]? = some o → o.op ≠ .select cs b)
  (hs : sinkFrom md ops n k0 = true) (hki0 : k0 ≤ i) (hc : Region.chainB md ops n = true) (hn : n < ops.size) (hin : i < n)
  (hdone : ∀ listed a F, L listed a F → ∀ j ∈ Region.ready md ops listed, n ≤ j) :
  ∀ (f : Nat) (listed : Array Bool) (a : Act) (F : Facts), HeadInv md ops n listed →
   (∀ j oj, ops[j]? = some oj → j ≠ i → listed.getD j true = false → (∀ e ∈ oj.after, Region.binds md e = true → e.on ≠ i) → oi.apart ops oj = true) →
   i ∈ Region.ready md ops listed → (∀ k, listed.getD k true = false → F k = fun _ => True) → Stable E F → Con C F → Good P ops E C rel Ri i oi a F →
   (∀ v, Con C (upd F i (Ri v)) → wpAnyH P md ops E C rel n L f (listed.setIfInBounds i true) (a.put oi.dst v) (upd F i (Ri v))) → wpAnyH P md ops E C rel n L (f + 1) listed a F := by
 intro f
 induction f with
 | zero =>
  intro listed a F inv _ hr _ hS hcon hy H
  have hun := (mem_ready.1 hr).1
  refine ⟨fun h => (by rw [h] at hr; cases hr), fun j hj => ?_⟩
  have hjn : j < n := by
   rcases Nat.lt_or_ge j n with h | h
   ·exact h
   ·exact absurd hj (tail_waitsF hs hc inv _ i rfl hki0 hin hun j h)
  refine ⟨hjn, ?_⟩
  by_cases hji : j = i
  ·subst hji; simp only [gOp, hi]; exact ⟨Ri, hy, H⟩
  ·obtain ⟨v, hv⟩ := good_some ft hS hy hcon
   have := hdone _ _ _ (H v hv) j (ready_mono hj hji)
   omega
 | succ f ih =>
  intro listed a F inv hfree hr hun hS hcon hy H
  have hiun := (mem_ready.1 hr).1
  refine ⟨fun h => (by rw [h] at hr; cases hr), fun j hj => ?_⟩
  have hjn : j < n := by
   rcases Nat.lt_or_ge j n with h | h
   ·exact h
   ·exact absurd hj (tail_waitsF hs hc inv _ i rfl hki0 hin hiun j h)
  refine ⟨hjn, ?_⟩
  by_cases hji : j = i
  ·subst hji; simp only [gOp, hi]; exact ⟨Ri, hy, H⟩
  ·obtain ⟨hjun, oj, hoj, hall⟩ := mem_ready.1 hj
   have hnot : ∀ e ∈ oj.after, Region.binds md e = true → e.on ≠ i := fun e he hb heq => by
    have h1 := hall e he hb
    rw [heq, getD_both hiun] at h1
    cases h1
   obtain ⟨q1, q2, q3⟩ := Oper.apart_spec (hfree j oj hoj hji hjun hnot)
   have hsi : ∀ cs b, oi.op ≠ .select cs b := fun cs b => hsel i oi cs b hi
   have hsj : ∀ cs b, oj.op ≠ .select cs b := fun cs b => hsel j oj cs b hoj
   have getj : ∀ v, Con C (upd F i (Ri v)) → ∃ R, Good P ops E C rel R j oj a F ∧ ∀ u, Con C (upd (upd F i (Ri v)) j (R u)) →
     wpAnyH P md ops E C rel n L f ((listed.setIfInBounds i true).setIfInBounds j true) ((a.put oi.dst v).put oj.dst u) (upd (upd F i (Ri v)) j (R u)) := fun v hv => by
    have h1 := ((H v hv).2 j (ready_mono hj hji)).2
    simp only [gOp, hoj] at h1
    obtain ⟨R, hg, hn⟩ := h1
    exact ⟨R, (good_put hi q1 hsj a F v (Ri v)).1 hg, hn⟩
   obtain ⟨v0, hv0⟩ := good_some ft hS hy hcon
   obtain ⟨Rj, hgj, _⟩ := getj v0 hv0
   simp only [gOp, hoj]
   refine ⟨Rj, hgj, fun u hu => ?_⟩
   have hfree' : ∀ k ok, ops[k]? = some ok → k ≠ i → (listed.setIfInBounds j true).getD k true = false →
     (∀ e ∈ ok.after, Region.binds md e = true → e.on ≠ i) → oi.apart ops ok = true := fun k ok hk hki hun' hno => by
    refine hfree k ok hk hki ?_ hno
    by_cases hjk : j = k
    ·subst hjk; exact hjun
    ·rw [getD_set_ne true hjk] at hun'; exact hun'
   have hjs : j < listed.size := by
    rcases Nat.lt_or_ge j listed.size with h' | h'
    ·exact h'
    ·simp [Array.getElem?_eq_none h'] at hjun
   have hun2 : ∀ k, (listed.setIfInBounds j true).getD k true = false → upd F j (Rj u) k = fun _ => True := fun k hk => by
    by_cases hjk : j = k
    ·subst hjk; simp [hjs] at hk
    ·rw [getD_set_ne true hjk] at hk
     funext w
     rw [upd_ne _ _ _ (Ne.symm hjk)]
     exact congrFun (hun k hk) w
   refine ih (listed.setIfInBounds j true) (a.put oj.dst u) (upd F j (Rj u)) (inv.set hj hjn) hfree' (ready_mono hr (Ne.symm hji)) hun2 (stable_upd hS (good_stays ft hgj)) hu ((good_put hoj q3 hsi a F u (Rj u)).2 hy) fun v hv => ?_
   have hv' : Con C (upd F i (Ri v)) := by
    obtain ⟨w, hC, hw⟩ := hv
    refine ⟨w, hC, fun k => ?_⟩
    have := hw k
    by_cases hki : k = i
    ·subst hki; rw [upd_same] at *; exact this
    ·rw [upd_ne _ _ _ hki] at *
     by_cases hkj : k = j
     ·subst hkj; rw [hun k hjun]; trivial
     ·rw [upd_ne _ _ _ hkj] at this; exact this
   obtain ⟨R, hg, hn⟩ := getj v hv'
   have hR := good_unique hcon hg hgj
   subst hR
   rw [upd_comm _ _ _ hji] at hv ⊢
   have := hn u hv
   rw [Array.setIfInBounds_comm _ _ hji, ← Act.put_comm a v u q2]
   exact this
theorem wpAnyH_lexF {n g k0 : Nat} {Lq : Act → Facts → Prop} (ft : Fit E C rel) (hsel : Region.noSelect ops = true) (hs : sinkFrom md ops n k0 = true) (hc : Region.chainB md ops n = true) (hn : n < ops.size) :
  ∀ (l : List Oper) (k : Nat) (listed : Array Bool) (a : Act) (F : Facts), k0 ≤ k → (∀ j, j < l.length → l[j]? = ops[k + j]?) → k + l.length = n → HeadInv md ops n listed →
  Region.lexHead md ops g l.length k listed = true → (∀ k, listed.getD k true = false → F k = fun _ => True) → Stable E F → Con C F → wpG P ops E C rel Lq k l a F →
  wpAnyH P md ops E C rel n (fun listed' a' F' => Region.seqB md ops g n listed' = true ∧ Lq a' F') l.length listed a F
 | [], k, listed, a, F, _, _, hk, _, hB, _, _, _, h => by
  have : k = n := by simpa using hk
  subst this
  exact ⟨by simpa [Region.lexHead] using hB, h⟩
 | o :: l, k, listed, a, F, hk0, hl, hk, inv, hB, hun, hS, hcon, h => by
  have h0 : ops[k]? = some o := by simpa using (hl 0 (by simp)).symm
  simp only [List.length_cons, Region.lexHead, Bool.and_eq_true] at hB
  obtain ⟨⟨hr, hf⟩, hB'⟩ := hB
  have hkn : k < n := by simp only [List.length_cons] at hk; omega
  have hr' : k ∈ Region.ready md ops listed := by simpa using hr
  have hks : k < listed.size := by
   rcases Nat.lt_or_ge k listed.size with h' | h'
   ·exact h'
   ·have := (mem_ready.1 hr').1; simp [Array.getElem?_eq_none h'] at this
  obtain ⟨R, hg, hnx⟩ := h
  exact wpAnyH_firstF ft h0 (Region.noSelect_spec hsel) hs hk0 hc hn hkn (fun listed' a' F' hL => seqB_ready hL.1) l.length listed a F inv (Region.free_spec h0 hf) hr' hun hS hcon hg fun v hv =>
   wpAnyH_lexF ft hsel hs hc hn l (k + 1) _ _ _ (Nat.le_succ_of_le hk0) (fun j hj => by have := hl (j + 1) (by simp; omega); simpa [Nat.add_assoc, Nat.add_comm 1 j] using this) (by simp only [List.length_cons] at hk; omega) (inv.set hr' hkn) hB' (fun m hm => by
    by_cases hkm : k = m
    ·subst hkm; simp [hks] at hm
    ·rw [getD_set_ne true hkm] at hm
     funext w
     rw [upd_ne _ _ _ (Ne.symm hkm)]
     exact congrFun (hun m hm) w) (stable_upd hS (good_stays ft hg)) hv (hnx v hv)
end
section
variable {P : Program} {ops : Array Oper} {md : Region.Mode} {E : World → World → Prop} {C : World → Prop} {rel : Nat → Option (Value → World → Prop)} {p : Nat} {CH : List PanicEntry}
end
theorem wp_region_ext_tail1 {P : Program} {id : Nat} {Q : Exit → Act → World → Prop} {a : Act} {w : World} {o0 : Oper} {l : List Oper} (n : Nat) (rels : List (Nat × (Value → World → Prop))) (hst : StayAll rels)
  (hm : P.follows .mixedOrders = true) (hsel : Region.noSelect (o0 :: l).toArray = true) (hn : n < (o0 :: l).toArray.size) (h1n : 1 ≤ n) (hs : sinkFrom .any (o0 :: l).toArray n 1 = true) (hc : Region.chainB .any (o0 :: l).toArray n = true)
  (hf : Region.free .any (o0 :: l).toArray (Array.replicate (o0 :: l).toArray.size false) 0 = true) (hr : (Region.ready .any (o0 :: l).toArray (Array.replicate (o0 :: l).toArray.size false)).contains 0 = true)
  (hlex : Region.lexHead .any (o0 :: l).toArray ((o0 :: l).toArray.size - n) (n - 1) 1 ((Array.replicate (o0 :: l).toArray.size false).setIfInBounds 0 true) = true)
  (v : Value) (hw : Region.wanted o0 (yielded (o0 :: l).toArray a.tmps) = true) (hv : ∀ w, (execOp a.eval o0).run P w = .ok (.value v) w)
  (hQ : ∀ c a' w', Q (.panic c) (a'.put o0.dst v) w' → Q (.panic c) a' w')
  (h : wpG P (o0 :: l).toArray (fun u u' => Below u.heap.size u u') (fun u => Below w.heap.size w u) (relOf rels) (fun a' F => ∀ w', Below w.heap.size w w' → (∀ k, F k w') → wpList P (o0 :: l).toArray Q ((o0 :: l).drop n) a' w') 1 (l.take (n - 1)) (a.put o0.dst v) noFacts) : (Code.region id (o0 :: l).toArray true).wp P Q a w := by
 have hn' : n < l.length + 1 := by simpa using hn
 have htl : (l.take (n - 1)).length = n - 1 := by simp; omega
 have hdl : ((o0 :: l).drop n).length = (o0 :: l).toArray.size - n := by simp
 have ft : Fit (fun u u' => Below u.heap.size u u') (fun u => Below w.heap.size w u) (relOf rels) :=
  ⟨fun u => Below.refl _ _, fun u u' h h2 => h.trans (h2.mono h.size), relOf_stays rels hst⟩
 have hC0 : Below w.heap.size w { w with drawn := w.drawn + 1 } := (Below.refl _ _).drew
 have inv0 : HeadInv .any (o0 :: l).toArray n (Array.replicate (o0 :: l).toArray.size false) :=
  ⟨by simp, fun j oj _ hl => (by rw [getD_replicate_false] at hl; cases hl), fun t _ ht => getD_in (by simpa using ht) (getD_replicate_false _ _)⟩
 have hr' : 0 ∈ Region.ready .any (o0 :: l).toArray (Array.replicate (o0 :: l).toArray.size false) := by simpa using hr
 have inv1 := inv0.set hr' (by omega)
 have H := wpAnyH_lexF (md := .any) (k0 := 1) (g := (o0 :: l).toArray.size - n) ft hsel hs hc hn (l.take (n - 1)) 1 _ (a.put o0.dst v) noFacts (Nat.le_refl _) (fun j hj => by
  have hj' : j < n - 1 := by rw [htl] at hj; exact hj
  simp [hj', Nat.add_comm 1 j]) (by rw [htl]; omega) inv1 (by rw [htl]; exact hlex) (fun _ _ => rfl) (fun _ _ _ _ h => h) ⟨_, hC0, fun _ => trivial⟩ h
 refine wp_region_any hm ?_
 have := wpAny_of_headG (Q' := Q) (g := (o0 :: l).toArray.size - n) ft (fun listed a' F' w' hC hF hL => by
  have := wpAny_of_seq (md := .any) (Q' := Q) ((o0 :: l).drop n) n listed a' w' (fun j => by rw [List.getElem?_drop, List.getElem?_toArray]) (by rw [hdl]; exact hL.1) (hL.2 w' hC hF)
  rwa [hdl] at this) _ _ _ noFacts _ hC0 (fun _ => trivial) (fun _ _ _ _ h => h) H
 rw [htl] at this
 have h2 := wpAny_first (md := .any) (Q := Q) (i := 0) (oi := o0) (v := v) (by simp) (Region.noSelect_spec hsel) hQ _ _ a _ (Region.free_spec (by simp) hf) hr' (.inl ⟨hw, hv⟩) this
 rw [show n - 1 + ((o0 :: l).toArray.size - n) + 1 = (o0 :: l).toArray.size by omega] at h2
 exact h2
section
variable {P : Program} {ops : Array Oper} {md : Region.Mode} {Q : Exit → Act → World → Prop} {C : World → Prop}
def wpAnyC (P : Program) (md : Region.Mode) (ops : Array Oper) (Q : Exit → Act → World → Prop) (C : World → Prop) : Nat → Array Bool → Act → World → Prop
 | 0, listed, a, w => Region.ready md ops listed = [] ∧ Q .normal a w
 | f + 1, listed, a, w => (Region.ready md ops listed = [] → Q .normal a w) ∧ ∀ i ∈ Region.ready md ops listed, wpOp P ops Q i (fun a' w' => C w' ∧ wpAnyC P md ops Q C f (listed.setIfInBounds i true) a' w') a w
theorem wpAny_of_C : ∀ (f : Nat) (listed : Array Bool) (a : Act) (w : World), wpAnyC P md ops Q C f listed a w → wpAny P md ops Q f listed a w
 | 0, _, _, _, h => h
 | f + 1, _, _, _, h => ⟨h.1, fun i hi => wpOp_mono (fun a' w' h' => wpAny_of_C f _ a' w' h'.2) (h.2 i hi)⟩
def YieldsC (P : Program) (ops : Array Oper) (C : World → Prop) (o : Oper) (v : Value) (a : Act) : Prop :=
 Region.wanted o (yielded ops a.tmps) = true ∧ ∀ w, C w → (execOp a.eval o).run P w = .ok (.value v) w
theorem upon_putC {o : Oper} {d : Option Tmp} {v : Value} {a : Act} {Y : Act → Prop} {K : Act → World → Prop} {r : Result Next} (hne : ∀ e, o.dst = some e → d ≠ some e) (hput : ∀ u, (a.put d v).put o.dst u = (a.put o.dst u).put d v)
  (hQ : ∀ c w, Q (.panic c) (a.put d v) w → Q (.panic c) a w) (hY : ∀ u, Y (a.put o.dst u)) (hD : ∀ x, Y (({ a with defers := x :: a.defers } : Act).put o.dst undef) ∧ ({ (a.put d v) with defers := x :: (a.put d v).defers } : Act).put o.dst undef = (({ a with defers := x :: a.defers } : Act).put o.dst undef).put d v)
  (h : o.upon P (a.put d v) K Q r) : o.upon P a (fun a' w' => Y a' ∧ K (a'.put d v) w') Q r := by
 cases r with
 | ok n w' =>
  cases n
  case value u => exact ⟨hY u, by have h' : K ((a.put d v).put o.dst u) w' := h; rw [hput] at h'; exact h'⟩
  case skip => exact ⟨hY _, by have h' : K ((a.put d v).put o.dst undef) w' := h; rw [hput] at h'; exact h'⟩
  case defer x => exact ⟨(hD x).1, by have h' : K _ w' := h; rw [(hD x).2] at h'; exact h'⟩
  case enter f args =>
   simp only [Oper.upon] at h ⊢
   refine Calls.mono h fun e w'' he => ?_
   cases e with
   | returned u => exact ⟨hY u, by have h' : K ((a.put d v).put o.dst u) w'' := he; rw [hput] at h'; exact h'⟩
   | panicked c => exact hQ _ _ he
   | outgrown => exact he
  case row row args =>
   simp only [Oper.upon] at h ⊢
   exact Rows.mono h fun u w'' he => ⟨hY u, by have h' : K ((a.put d v).put o.dst u) w'' := he; rw [hput] at h'; exact h'⟩
  all_goals (simp only [Oper.upon] at h)
 | halt x w' =>
  cases x <;> simp only [Oper.upon] at h ⊢
  case panic u => exact hQ _ _ h
theorem wpOp_putC {j : Nat} {oi oj : Oper} {v : Value} (hj : ops[j]? = some oj) (hap : oi.apart ops oj = true) (hsi : ∀ cs b, oi.op ≠ .select cs b) (hsj : ∀ cs b, oj.op ≠ .select cs b)
  (hQ : ∀ c a w, Q (.panic c) (a.put oi.dst v) w → Q (.panic c) a w) {K : Act → World → Prop} {a : Act} {w : World} (hy : YieldsC P ops C oi v a) (h : wpOp P ops Q j K (a.put oi.dst v) w) :
  wpOp P ops Q j (fun a' w' => YieldsC P ops C oi v a' ∧ K (a'.put oi.dst v) w') a w := by
 obtain ⟨q1, q2, q3⟩ := Oper.apart_spec hap
 have keep : ∀ a', YieldsC P ops C oi v a' → ∀ u, YieldsC P ops C oi v (a'.put oj.dst u) := fun a' hy u => by
  unfold YieldsC at *
  rw [execOp_put oi hsi a' oj.dst u q3, wanted_put oi a' oj.dst u q3]
  exact hy
 unfold wpOp at *
 simp only [hj] at *
 rw [wanted_put oj a oi.dst v q1] at h
 by_cases hw : Region.wanted oj (yielded ops a.tmps) = true
 ·rw [if_pos hw] at h ⊢
  rcases h with h | ⟨h1, h2⟩
  ·refine .inl ?_
   unfold Oper.wp at *
   rw [execOp_put oj hsj a oi.dst v q1] at h
   refine upon_putC (fun e he hd => ?_) (fun u => (Act.put_comm a v u q2).symm ▸ rfl) (fun c w => hQ c a w) (keep a hy) (fun x => ⟨keep ({ a with defers := x :: a.defers } : Act) hy _, ?_⟩) h
   ·exact q2 e (by rw [hd]) he
   ·rw [Act.put_defers, Act.put_comm _ v undef q2]
  ·exact .inr ⟨by unfold Oper.asks at *; rw [execOp_put oj hsj a oi.dst v q1] at h1; exact h1, h2⟩
 ·rw [if_neg hw] at h ⊢
  exact ⟨keep a hy _, by rw [← Act.put_comm a v undef q2]; exact h⟩
theorem yieldsC_run {i : Nat} {oi : Oper} {v : Value} {a : Act} {w : World} (hi : ops[i]? = some oi) (h : YieldsC P ops C oi v a) (hC : C w) {K : Act → World → Prop} (hK : K (a.put oi.dst v) w) : wpOp P ops Q i K a w := by
 unfold wpOp
 simp only [hi]
 rw [if_pos h.1]
 refine .inl ?_
 unfold Oper.wp
 rw [h.2 w hC]
 exact hK
theorem wpAnyC_first {i : Nat} {oi : Oper} {v : Value} (hi : ops[i]? = some oi) (hsel : ∀ (j : Nat) (o : Oper) cs b, ops[j]? = some o → o.op ≠ .select cs b) (hQ : ∀ c a w, Q (.panic c) (a.put oi.dst v) w → Q (.panic c) a w) :
  ∀ (fuel : Nat) (listed : Array Bool) (a : Act) (w : World),
   (∀ j oj, ops[j]? = some oj → j ≠ i → listed.getD j true = false → (∀ e ∈ oj.after, Region.binds md e = true → e.on ≠ i) → oi.apart ops oj = true) →
   i ∈ Region.ready md ops listed → YieldsC P ops C oi v a → C w → wpAnyC P md ops Q C fuel (listed.setIfInBounds i true) (a.put oi.dst v) w → wpAnyC P md ops Q C (fuel + 1) listed a w := by
 intro fuel
 induction fuel with
 | zero =>
  intro listed a w _ hr hy hC H
  refine ⟨fun h => (by rw [h] at hr; cases hr), fun j hj => ?_⟩
  by_cases hji : j = i
  ·subst hji; exact yieldsC_run hi hy hC ⟨hC, H⟩
  ·have := ready_mono hj hji
   rw [H.1] at this
   cases this
 | succ fuel ih =>
  intro listed a w hfree hr hy hC H
  refine ⟨fun h => (by rw [h] at hr; cases hr), fun j hj => ?_⟩
  by_cases hji : j = i
  ·subst hji; exact yieldsC_run hi hy hC ⟨hC, H⟩
  ·have h1 := H.2 j (ready_mono hj hji)
   obtain ⟨hjun, oj, hoj, hall⟩ := mem_ready.1 hj
   have hnot : ∀ e ∈ oj.after, Region.binds md e = true → e.on ≠ i := fun e he hb heq => by
    have h1 := hall e he hb
    have h0 := (mem_ready.1 hr).1
    rw [heq] at h1
    rcases Nat.lt_or_ge i listed.size with h' | h'
    ·simp [h'] at h0 h1; rw [h0] at h1; cases h1
    ·simp [Array.getElem?_eq_none h'] at h1
   have h2 := wpOp_putC hoj (hfree j oj hoj hji hjun hnot) (fun cs b => hsel i oi cs b hi) (fun cs b => hsel j oj cs b hoj) hQ hy h1
   have hfree' : ∀ k ok, ops[k]? = some ok → k ≠ i → (listed.setIfInBounds j true).getD k true = false →
     (∀ e ∈ ok.after, Region.binds md e = true → e.on ≠ i) → oi.apart ops ok = true := fun k ok hk hki hun hno => by
    refine hfree k ok hk hki ?_ hno
    by_cases hjk : j = k
    ·subst hjk; exact hjun
    ·rw [getD_set_ne true hjk] at hun; exact hun
   refine wpOp_mono (fun a' w' h3 => ⟨h3.2.1, ?_⟩) h2
   refine ih _ _ _ hfree' (ready_mono hr (Ne.symm hji)) h3.1 h3.2.1 ?_
   rw [Array.setIfInBounds_comm _ _ hji]
   exact h3.2.2
theorem putC_defers (a : Act) (x : Option Tmp) (v : Value) : (a.put x v).defers = a.defers := by cases x <;> rfl
theorem wp_region_c {id : Nat} {a : Act} {w : World} {l : List Oper} (C : World → Prop) (hm : P.follows .mixedOrders = true)
  (h : wpAnyC P .any l.toArray Q C l.length (Array.replicate l.length false) a { w with drawn := w.drawn + 1 }) : (Code.region id l.toArray true).wp P Q a w :=
 wp_region_any hm (by simpa using wpAny_of_C _ _ _ _ h)
theorem c_take {n : Nat} {listed : Array Bool} {a : Act} {w : World} (i : Nat) (o : Oper) (v : Value) (hi : ops[i]? = some o) (hs : Region.noSelect ops = true) (hf : Region.free .any ops listed i = true) (hr : (Region.ready .any ops listed).contains i = true)
  (hw : Region.wanted o (yielded ops a.tmps) = true) (hQ : ∀ c a w, Q (.panic c) (a.put o.dst v) w → Q (.panic c) a w) (hC : C w) (h : ∀ w, C w → (execOp a.eval o).run P w = .ok (.value v) w) (hn : wpAnyC P .any ops Q C n (listed.setIfInBounds i true) (a.put o.dst v) w) : wpAnyC P .any ops Q C (n + 1) listed a w :=
 wpAnyC_first hi (Region.noSelect_spec hs) hQ n listed a w (Region.free_spec hi hf) (by simpa using hr) ⟨hw, h⟩ hC hn
theorem zct {n : Nat} {listed : Array Bool} {a : Act} {w : World} (i : Nat) (o : Oper) (v : Value) (hi : ops[i]? = some o) (hC : C w) (h : ∀ w, C w → (execOp a.eval o).run P w = .ok (.value v) w) (hn : wpAnyC P .any ops Q C n (listed.setIfInBounds i true) (a.put o.dst v) w)
 (hs : Region.noSelect ops = true := by kernel_rfl) (hf : Region.free .any ops listed i = true := by kernel_rfl) (hr : (Region.ready .any ops listed).contains i = true := by kernel_rfl) (hw : Region.wanted o (yielded ops a.tmps) = true := by rfl) (hQ : ∀ c a w, Q (.panic c) (a.put o.dst v) w → Q (.panic c) a w := by exact fun c a' w' h => ⟨(putC_defers _ _ _).symm.trans h.1, h.2⟩) : wpAnyC P .any ops Q C (n + 1) listed a w :=
 c_take i o v hi hs hf hr hw hQ hC h hn
theorem c_only {n : Nat} {listed : Array Bool} {a : Act} {w : World} (i : Nat) (o : Oper) (hi : ops[i]? = some o) (hr : Region.ready .any ops listed = [i])
  (h : if Region.wanted o (yielded ops a.tmps) = true then o.wp P a w (fun a' w' => C w' ∧ wpAnyC P .any ops Q C n (listed.setIfInBounds i true) a' w') Q else False) : wpAnyC P .any ops Q C (n + 1) listed a w := by
 refine ⟨fun h0 => (by rw [hr] at h0; cases h0), fun j hj => ?_⟩
 rw [hr] at hj
 obtain rfl := List.mem_singleton.1 hj
 unfold wpOp
 simp only [hi]
 by_cases hw : Region.wanted o (yielded ops a.tmps) = true
 ·rw [if_pos hw] at h ⊢; exact .inl h
 ·rw [if_neg hw] at h; exact h.elim
theorem c_end {n : Nat} {listed : Array Bool} {a : Act} {w : World} (hr : Region.ready .any ops listed = []) (h : Q .normal a w) : wpAnyC P .any ops Q C n listed a w := by
 cases n with
 | zero => exact ⟨hr, h⟩
 | succ n => exact ⟨fun _ => h, fun i hi => by rw [hr] at hi; cases hi⟩
end
end Go.Proofs.YtloonnfelgokmaaGreatDoor.grow
