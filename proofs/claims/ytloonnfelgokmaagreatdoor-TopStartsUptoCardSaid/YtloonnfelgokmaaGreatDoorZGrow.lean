/- A region that draws its order, whose operations read what stays and may make memory: one walk in the order of the text serves every order. Conditions: the relation E on worlds is kept by each operation, and what is said of each value is kept by E. -/
import Derived.Still
import Derived.Tactics
import Derived.Tactics2
import Derived.KernelRfl
import Derived.Test.YtloonnfelgokmaaGreatDoorZLib
import Derived.Laws.Rows
import Derived.StillTail
set_option maxRecDepth 100000
set_option maxHeartbeats 16000000
set_option linter.unusedSimpArgs false
set_option linter.unusedVariables false
namespace Go.Proofs.YtloonnfelgokmaaGreatDoor.grow
def looked (ops : Array Oper) (o : Oper) (i : Nat) : Bool :=
 match (ops[i]?).bind (·.dst) with
 | some d => (o.looksAt ops).contains d
 | none => false
abbrev Facts := Nat → World → Prop
def upd (F : Facts) (i : Nat) (p : World → Prop) : Facts := fun j w => if j = i then p w else F j w
theorem upd_same (F : Facts) (i : Nat) (p : World → Prop) (w : World) : upd F i p i w = p w := by simp [upd]
theorem upd_ne (F : Facts) {i j : Nat} (p : World → Prop) (w : World) (h : j ≠ i) : upd F i p j w = F j w := by simp [upd, h]
theorem upd_comm (F : Facts) {i j : Nat} (p q : World → Prop) (h : i ≠ j) : upd (upd F i p) j q = upd (upd F j q) i p := by
 funext k w
 by_cases h1 : k = i
 ·subst h1; simp [upd, h]
 ·by_cases h2 : k = j
  ·subst h2; simp [upd, Ne.symm h]
  ·simp [upd, h1, h2]
def growUpon (P : Program) (S : Value → World → Prop) : Result Next → Prop
 | .ok (.value u) w' => S u w'
 | .ok .skip w' => S undef w'
 | .ok (.enter f args) w' => Calls P f args w' (fun e w'' => ∃ u, e = .returned u ∧ S u w'')
 | _ => False
def pureUpon (w : World) (v : Value) : Result Next → Prop
 | .ok (.value u) w' => w' = w ∧ u = v
 | .ok .skip w' => w' = w ∧ v = undef
 | _ => False
section
variable {P : Program} {ops : Array Oper} {md : Region.Mode} {E : World → World → Prop} {C : World → Prop} {rel : Nat → Option (Value → World → Prop)}
def Has (ops : Array Oper) (o : Oper) (F : Facts) (w : World) : Prop := ∀ i, looked ops o i = true → F i w
def Good (P : Program) (ops : Array Oper) (E : World → World → Prop) (C : World → Prop) (rel : Nat → Option (Value → World → Prop)) (R : Value → World → Prop) (i : Nat) (o : Oper) (a : Act) (F : Facts) : Prop :=
 (Region.wanted o (yielded ops a.tmps) = true ∧ rel i = some R ∧ ∀ w, C w → Has ops o F w → growUpon P (fun u w' => R u w' ∧ E w w') ((execOp a.eval o).run P w)) ∨
 (Region.wanted o (yielded ops a.tmps) = true ∧ rel i = none ∧ ∃ v, (R = fun u _ => u = v) ∧ ∀ w, C w → Has ops o F w → pureUpon w v ((execOp a.eval o).run P w)) ∨
 (Region.wanted o (yielded ops a.tmps) = false ∧ R = fun u _ => u = undef)
def Con (C : World → Prop) (F : Facts) : Prop := ∃ w, C w ∧ ∀ k, F k w
theorem Has.of_all {o : Oper} {F : Facts} {w : World} (h : ∀ k, F k w) : Has ops o F w := fun i _ => h i
theorem pure_unique {w : World} {u v : Value} {r : Result Next} (h : pureUpon w u r) (k : pureUpon w v r) : u = v := by
 cases r with
 | ok n w' =>
  cases n <;> simp only [pureUpon] at h k
  ·exact h.2.symm.trans k.2
  ·exact h.2.trans k.2.symm
 | halt x w' => simp only [pureUpon] at h
theorem good_unique {R R' : Value → World → Prop} {i : Nat} {o : Oper} {a : Act} {F : Facts} (hc : Con C F) (h : Good P ops E C rel R i o a F) (k : Good P ops E C rel R' i o a F) : R = R' := by
 obtain ⟨w, hw, hF⟩ := hc
 rcases h with ⟨h1, h2, _⟩ | ⟨h1, h2, v, rfl, h3⟩ | ⟨h1, rfl⟩
 ·rcases k with ⟨k1, k2, _⟩ | ⟨k1, k2, v', rfl, k3⟩ | ⟨k1, rfl⟩
  ·rw [h2] at k2; exact Option.some.inj k2
  ·rw [h2] at k2; cases k2
  ·rw [h1] at k1; cases k1
 ·rcases k with ⟨k1, k2, _⟩ | ⟨k1, k2, v', rfl, k3⟩ | ⟨k1, rfl⟩
  ·rw [h2] at k2; cases k2
  ·have := pure_unique (h3 w hw (Has.of_all hF)) (k3 w hw (Has.of_all hF))
   subst this; rfl
  ·rw [h1] at k1; cases k1
 ·rcases k with ⟨k1, k2, _⟩ | ⟨k1, k2, v', rfl, k3⟩ | ⟨k1, rfl⟩
  ·rw [h1] at k1; cases k1
  ·rw [h1] at k1; cases k1
  ·rfl
theorem good_same {R : Value → World → Prop} {i : Nat} {o : Oper} {a a' : Act} {F F' : Facts} (he : execOp a'.eval o = execOp a.eval o)
  (hw : Region.wanted o (yielded ops a'.tmps) = Region.wanted o (yielded ops a.tmps)) (hF : ∀ w, Has ops o F' w ↔ Has ops o F w) (h : Good P ops E C rel R i o a F) : Good P ops E C rel R i o a' F' := by
 unfold Good at *
 rw [hw, he]
 rcases h with ⟨h1, h2, h3⟩ | ⟨h1, h2, v, h4, h3⟩ | h
 ·exact .inl ⟨h1, h2, fun w hc hh => h3 w hc ((hF w).1 hh)⟩
 ·exact .inr (.inl ⟨h1, h2, v, h4, fun w hc hh => h3 w hc ((hF w).1 hh)⟩)
 ·exact .inr (.inr h)
theorem has_upd {i : Nat} {oi oj : Oper} (hi : ops[i]? = some oi) (h : ∀ d, oi.dst = some d → d ∉ oj.looksAt ops) (F : Facts) (p : World → Prop) (w : World) : Has ops oj (upd F i p) w ↔ Has ops oj F w := by
 have hn : looked ops oj i = false := by
  unfold looked
  rw [hi]
  cases hd : oi.dst with
  | none => simp [hd]
  | some d => simpa [hd] using h d hd
 constructor <;> intro hh k hk
 ·have hki : k ≠ i := fun e => by subst e; rw [hn] at hk; cases hk
  have := hh k hk
  rwa [upd_ne _ _ _ hki] at this
 ·have hki : k ≠ i := fun e => by subst e; rw [hn] at hk; cases hk
  rw [upd_ne _ _ _ hki]
  exact hh k hk
theorem good_put {R : Value → World → Prop} {i j : Nat} {oi oj : Oper} (hi : ops[i]? = some oi) (h : ∀ d, oi.dst = some d → d ∉ oj.looksAt ops) (hs : ∀ cs b, oj.op ≠ .select cs b) (a : Act) (F : Facts) (v : Value) (p : World → Prop) :
  Good P ops E C rel R j oj (a.put oi.dst v) (upd F i p) ↔ Good P ops E C rel R j oj a F :=
 ⟨good_same (execOp_put oj hs a oi.dst v h).symm (wanted_put oj a oi.dst v h).symm fun w => (has_upd hi h F p w).symm,
  good_same (execOp_put oj hs a oi.dst v h) (wanted_put oj a oi.dst v h) fun w => has_upd hi h F p w⟩
structure Fit (E : World → World → Prop) (C : World → Prop) (rel : Nat → Option (Value → World → Prop)) : Prop where
 refl : ∀ w, E w w
 keeps : ∀ w w', C w → E w w' → C w'
 stays : ∀ i R, rel i = some R → ∀ v w w', E w w' → R v w → R v w'
def Stable (E : World → World → Prop) (F : Facts) : Prop := ∀ k w w', E w w' → F k w → F k w'
theorem good_stays {R : Value → World → Prop} {i : Nat} {o : Oper} {a : Act} {F : Facts} (ft : Fit E C rel) (h : Good P ops E C rel R i o a F) : ∀ v w w', E w w' → R v w → R v w' := by
 rcases h with ⟨_, h2, _⟩ | ⟨_, _, v, rfl, _⟩ | ⟨_, rfl⟩
 ·exact ft.stays i R h2
 ·exact fun _ _ _ _ h => h
 ·exact fun _ _ _ _ h => h
theorem stable_upd {R : Value → World → Prop} {i : Nat} {F : Facts} {v : Value} (hF : Stable E F) (h : ∀ v w w', E w w' → R v w → R v w') : Stable E (upd F i (R v)) := by
 intro k w w' he hk
 by_cases hki : k = i
 ·subst hki; rw [upd_same] at *; exact h v w w' he hk
 ·rw [upd_ne _ _ _ hki] at *; exact hF k w w' he hk
def gOp (P : Program) (ops : Array Oper) (E : World → World → Prop) (C : World → Prop) (rel : Nat → Option (Value → World → Prop)) (i : Nat) (K : Act → Facts → Prop) (a : Act) (F : Facts) : Prop :=
 match ops[i]? with
 | none => K a F
 | some o => ∃ R, Good P ops E C rel R i o a F ∧ ∀ v, Con C (upd F i (R v)) → K (a.put o.dst v) (upd F i (R v))
theorem upon_of_grow {o : Oper} {a : Act} {K : Act → World → Prop} {Q : Exit → Act → World → Prop} {S : Value → World → Prop} {r : Result Next} (h : growUpon P S r) (hK : ∀ u w', S u w' → K (a.put o.dst u) w') : o.upon P a K Q r := by
 cases r with
 | ok n w' =>
  cases n <;> simp only [growUpon] at h <;> simp only [Oper.upon]
  case value u => exact hK _ _ h
  case skip => exact hK _ _ h
  case enter f args => exact h.mono fun e w'' ⟨u, he, hS⟩ => by subst he; exact hK _ _ hS
 | halt x w' => simp only [growUpon] at h
theorem grow_of_pure {w : World} {v : Value} {r : Result Next} (hE : ∀ w, E w w) (h : pureUpon w v r) : growUpon P (fun u w' => u = v ∧ E w w') r := by
 cases r with
 | ok n w' =>
  cases n <;> simp only [pureUpon] at h <;> simp only [growUpon]
  case value u => obtain ⟨rfl, rfl⟩ := h; exact ⟨rfl, hE _⟩
  case skip => obtain ⟨rfl, rfl⟩ := h; exact ⟨rfl, hE _⟩
 | halt x w' => simp only [pureUpon] at h
theorem good_run {R : Value → World → Prop} {i : Nat} {o : Oper} {a : Act} {F : Facts} {K : Act → World → Prop} {Q : Exit → Act → World → Prop} (hi : ops[i]? = some o) (ft : Fit E C rel) (h : Good P ops E C rel R i o a F) {w : World} (hC : C w) (hF : ∀ k, F k w)
  (hK : ∀ v w', R v w' → E w w' → K (a.put o.dst v) w') : wpOp P ops Q i K a w := by
 unfold wpOp
 simp only [hi]
 rcases h with ⟨h1, _, h3⟩ | ⟨h1, _, v, rfl, h3⟩ | ⟨h1, rfl⟩
 ·rw [if_pos h1]
  exact .inl (upon_of_grow (h3 w hC (Has.of_all hF)) fun u w' hh => hK u w' hh.1 hh.2)
 ·rw [if_pos h1]
  exact .inl (upon_of_grow (grow_of_pure ft.refl (h3 w hC (Has.of_all hF))) fun u w' hh => hK u w' hh.1 hh.2)
 ·rw [h1]
  exact hK undef w rfl (ft.refl w)
theorem some_of_grow {S : Value → World → Prop} {r : Result Next} (h : growUpon P S r) : ∃ u w', S u w' := by
 cases r with
 | ok n w' =>
  cases n <;> simp only [growUpon] at h
  case value u => exact ⟨u, w', h⟩
  case skip => exact ⟨_, w', h⟩
  case enter f args => obtain ⟨e, w2, fr, ⟨u, _, hS⟩, _⟩ := h []; exact ⟨u, w2, hS⟩
 | halt x w' => simp only [growUpon] at h
theorem good_some {R : Value → World → Prop} {i : Nat} {o : Oper} {a : Act} {F : Facts} (ft : Fit E C rel) (hF : Stable E F) (h : Good P ops E C rel R i o a F) (hc : Con C F) : ∃ v, Con C (upd F i (R v)) := by
 obtain ⟨w, hC, hFw⟩ := hc
 have key : ∃ v w', R v w' ∧ E w w' := by
  rcases h with ⟨_, _, h3⟩ | ⟨_, _, v, rfl, h3⟩ | ⟨_, rfl⟩
  ·exact some_of_grow (h3 w hC (Has.of_all hFw))
  ·exact ⟨v, w, rfl, ft.refl w⟩
  ·exact ⟨undef, w, rfl, ft.refl w⟩
 obtain ⟨v, w', hR, hE⟩ := key
 refine ⟨v, w', ft.keeps w w' hC hE, fun k => ?_⟩
 by_cases hki : k = i
 ·subst hki; rw [upd_same]; exact hR
 ·rw [upd_ne _ _ _ hki]; exact hF k w w' hE (hFw k)
def wpAnyG (P : Program) (md : Region.Mode) (ops : Array Oper) (E : World → World → Prop) (C : World → Prop) (rel : Nat → Option (Value → World → Prop)) (Q : Act → Facts → Prop) : Nat → Array Bool → Act → Facts → Prop
 | 0, listed, a, F => Region.ready md ops listed = [] ∧ Q a F
 | fuel + 1, listed, a, F =>
  (Region.ready md ops listed = [] → Q a F) ∧
  ∀ i ∈ Region.ready md ops listed, gOp P ops E C rel i (wpAnyG P md ops E C rel Q fuel (listed.setIfInBounds i true)) a F
theorem wpAny_of_grow {Q : Act → Facts → Prop} {Q' : Exit → Act → World → Prop} (ft : Fit E C rel) (hQ : ∀ a F w, C w → (∀ k, F k w) → Q a F → Q' .normal a w) : ∀ (fuel : Nat) (listed : Array Bool) (a : Act) (F : Facts) (w : World), C w → (∀ k, F k w) → Stable E F →
  wpAnyG P md ops E C rel Q fuel listed a F → wpAny P md ops Q' fuel listed a w
 | 0, _, _, _, _, hC, hF, _, h => ⟨h.1, hQ _ _ _ hC hF h.2⟩
 | fuel + 1, listed, a, F, w, hC, hF, hS, h => ⟨fun h0 => hQ _ _ _ hC hF (h.1 h0), fun i hi => by
   have h2 := h.2 i hi
   obtain ⟨_, o, ho, _⟩ := mem_ready.1 hi
   simp only [gOp, ho] at h2
   obtain ⟨R, hg, hn⟩ := h2
   refine good_run ho ft hg hC hF fun v w' hR hE => ?_
   have hF' : ∀ k, upd F i (R v) k w' := fun k => by
    by_cases hki : k = i
    ·subst hki; rw [upd_same]; exact hR
    ·rw [upd_ne _ _ _ hki]; exact hS k w w' hE (hF k)
   have hC' := ft.keeps w w' hC hE
   exact wpAny_of_grow ft hQ fuel _ _ _ _ hC' hF' (stable_upd hS (good_stays ft hg)) (hn v ⟨w', hC', hF'⟩)⟩
theorem wpAnyG_first {Q : Act → Facts → Prop} {i : Nat} {oi : Oper} {Ri : Value → World → Prop} (ft : Fit E C rel) (hi : ops[i]? = some oi) (hsel : ∀ (j : Nat) (o : Oper) cs b, ops[j]? = some o → o.op ≠ .select cs b) :
  ∀ (fuel : Nat) (listed : Array Bool) (a : Act) (F : Facts),
   (∀ j oj, ops[j]? = some oj → j ≠ i → listed.getD j true = false → (∀ e ∈ oj.after, Region.binds md e = true → e.on ≠ i) → oi.apart ops oj = true) →
   i ∈ Region.ready md ops listed → (∀ k, listed.getD k true = false → F k = fun _ => True) → Stable E F → Con C F → Good P ops E C rel Ri i oi a F →
   (∀ v, Con C (upd F i (Ri v)) → wpAnyG P md ops E C rel Q fuel (listed.setIfInBounds i true) (a.put oi.dst v) (upd F i (Ri v))) → wpAnyG P md ops E C rel Q (fuel + 1) listed a F := by
 intro fuel
 induction fuel with
 | zero =>
  intro listed a F _ hr _ hS hcon hy H
  refine ⟨fun h => (by rw [h] at hr; cases hr), fun j hj => ?_⟩
  by_cases hji : j = i
  ·subst hji; simp only [gOp, hi]; exact ⟨Ri, hy, H⟩
  ·have := ready_mono hj hji
   obtain ⟨v, hv⟩ := good_some ft hS hy hcon
   rw [(H v hv).1] at this
   cases this
 | succ fuel ih =>
  intro listed a F hfree hr hun hS hcon hy H
  refine ⟨fun h => (by rw [h] at hr; cases hr), fun j hj => ?_⟩
  by_cases hji : j = i
  ·subst hji; simp only [gOp, hi]; exact ⟨Ri, hy, H⟩
  ·obtain ⟨hjun, oj, hoj, hall⟩ := mem_ready.1 hj
   have hnot : ∀ e ∈ oj.after, Region.binds md e = true → e.on ≠ i := fun e he hb heq => by
    have h1 := hall e he hb
    have h0 := (mem_ready.1 hr).1
    rw [heq] at h1
    rcases Nat.lt_or_ge i listed.size with h' | h'
    ·simp [h'] at h0 h1; rw [h0] at h1; cases h1
    ·simp [Array.getElem?_eq_none h'] at h1
   obtain ⟨q1, q2, q3⟩ := Oper.apart_spec (hfree j oj hoj hji hjun hnot)
   have hsi : ∀ cs b, oi.op ≠ .select cs b := fun cs b => hsel i oi cs b hi
   have hsj : ∀ cs b, oj.op ≠ .select cs b := fun cs b => hsel j oj cs b hoj
   have getj : ∀ v, Con C (upd F i (Ri v)) → ∃ R, Good P ops E C rel R j oj a F ∧ ∀ u, Con C (upd (upd F i (Ri v)) j (R u)) →
     wpAnyG P md ops E C rel Q fuel ((listed.setIfInBounds i true).setIfInBounds j true) ((a.put oi.dst v).put oj.dst u) (upd (upd F i (Ri v)) j (R u)) := fun v hv => by
    have h1 := (H v hv).2 j (ready_mono hj hji)
    simp only [gOp, hoj] at h1
    obtain ⟨R, hg, hn⟩ := h1
    exact ⟨R, (good_put hi q1 hsj a F v (Ri v)).1 hg, hn⟩
   obtain ⟨v0, hv0⟩ := good_some ft hS hy hcon
   obtain ⟨Rj, hgj, _⟩ := getj v0 hv0
   simp only [gOp, hoj]
   refine ⟨Rj, hgj, fun u hu => ?_⟩
   have hfree' : ∀ k ok, ops[k]? = some ok → k ≠ i → (listed.setIfInBounds j true).getD k true = false →
     (∀ e ∈ ok.after, Region.binds md e = true → e.on ≠ i) → oi.apart ops ok = true := fun k ok hk hki hun' hno => by
    refine hfree k ok hk hki ?_ hno
    by_cases hjk : j = k
    ·subst hjk; exact hjun
    ·rw [getD_set_ne true hjk] at hun'; exact hun'
   have hjs : j < listed.size := by
    rcases Nat.lt_or_ge j listed.size with h' | h'
    ·exact h'
    ·simp [Array.getElem?_eq_none h'] at hjun
   have hun2 : ∀ k, (listed.setIfInBounds j true).getD k true = false → upd F j (Rj u) k = fun _ => True := fun k hk => by
    by_cases hjk : j = k
    ·subst hjk; simp [hjs] at hk
    ·rw [getD_set_ne true hjk] at hk
     funext w
     rw [upd_ne _ _ _ (Ne.symm hjk)]
     exact congrFun (hun k hk) w
   refine ih (listed.setIfInBounds j true) (a.put oj.dst u) (upd F j (Rj u)) hfree' (ready_mono hr (Ne.symm hji)) hun2 (stable_upd hS (good_stays ft hgj)) hu ((good_put hoj q3 hsi a F u (Rj u)).2 hy) fun v hv => ?_
   have hv' : Con C (upd F i (Ri v)) := by
    obtain ⟨w, hC, hw⟩ := hv
    refine ⟨w, hC, fun k => ?_⟩
    have := hw k
    by_cases hki : k = i
    ·subst hki; rw [upd_same] at *; exact this
    ·rw [upd_ne _ _ _ hki] at *
     by_cases hkj : k = j
     ·subst hkj; rw [hun k hjun]; trivial
     ·rw [upd_ne _ _ _ hkj] at this; exact this
   obtain ⟨R, hg, hn⟩ := getj v hv'
   have hR := good_unique hcon hg hgj
   subst hR
   rw [upd_comm _ _ _ hji] at hv ⊢
   have := hn u hv
   rw [Array.setIfInBounds_comm _ _ hji, ← Act.put_comm a v u q2]
   exact this
def wpG (P : Program) (ops : Array Oper) (E : World → World → Prop) (C : World → Prop) (rel : Nat → Option (Value → World → Prop)) (Q : Act → Facts → Prop) : Nat → List Oper → Act → Facts → Prop
 | _, [], a, F => Q a F
 | i, o :: rest, a, F => ∃ R, Good P ops E C rel R i o a F ∧ ∀ v, Con C (upd F i (R v)) → wpG P ops E C rel Q (i + 1) rest (a.put o.dst v) (upd F i (R v))
theorem wpAnyG_lex {Q : Act → Facts → Prop} (ft : Fit E C rel) (hs : Region.noSelect ops = true) : ∀ (l : List Oper) (k : Nat) (listed : Array Bool) (a : Act) (F : Facts), (∀ j, l[j]? = ops[k + j]?) →
  Region.lexFrom md ops l.length k listed = true → (∀ k, listed.getD k true = false → F k = fun _ => True) → Stable E F → Con C F → wpG P ops E C rel Q k l a F → wpAnyG P md ops E C rel Q l.length listed a F
 | [], _, _, _, _, _, hB, _, _, _, h => ⟨by simpa [Region.lexFrom] using hB, h⟩
 | o :: l, k, listed, a, F, hl, hB, hun, hS, hcon, h => by
  have h0 : ops[k]? = some o := by simpa using (hl 0).symm
  simp only [List.length_cons, Region.lexFrom, Bool.and_eq_true] at hB
  obtain ⟨⟨hr, hf⟩, hB'⟩ := hB
  obtain ⟨R, hg, hn⟩ := h
  have hr' : k ∈ Region.ready md ops listed := by simpa using hr
  have hks : k < listed.size := by
   rcases Nat.lt_or_ge k listed.size with h' | h'
   ·exact h'
   ·have := (mem_ready.1 hr').1; simp [Array.getElem?_eq_none h'] at this
  refine wpAnyG_first ft h0 (Region.noSelect_spec hs) l.length listed a F (Region.free_spec h0 hf) hr' hun hS hcon hg fun v hv => ?_
  refine wpAnyG_lex ft hs l (k + 1) _ _ _ (fun j => by have := hl (j + 1); simpa [Nat.add_assoc, Nat.add_comm 1 j] using this) hB' (fun m hm => ?_) (stable_upd hS (good_stays ft hg)) hv (hn v hv)
  by_cases hkm : k = m
  ·subst hkm; simp [hks] at hm
  ·rw [getD_set_ne true hkm] at hm
   funext w
   rw [upd_ne _ _ _ (Ne.symm hkm)]
   exact congrFun (hun m hm) w
def noFacts : Facts := fun _ _ => True
theorem wp_region_grow {id : Nat} {Q : Exit → Act → World → Prop} {a : Act} {w : World} {l : List Oper} (E : World → World → Prop) (C : World → Prop) (rel : Nat → Option (Value → World → Prop)) (ft : Fit E C rel) (hC : C { w with drawn := w.drawn + 1 })
  (hm : P.follows .mixedOrders = true) (hB : Region.lexB .any l.toArray = true)
  (h : wpG P l.toArray E C rel (fun a' F => ∀ w', C w' → (∀ k, F k w') → Q .normal a' w') 0 l a noFacts) : (Code.region id l.toArray true).wp P Q a w := by
 simp only [Region.lexB, Bool.and_eq_true] at hB
 refine wp_region_any hm (wpAny_of_grow ft (Q := fun a' F => ∀ w', C w' → (∀ k, F k w') → Q .normal a' w') (fun _ _ w' hC hF h => h w' hC hF) _ _ _ noFacts _ hC (fun _ => trivial) (fun _ _ _ _ h => h) ?_)
 have := wpAnyG_lex (md := .any) ft hB.1 l 0 (Array.replicate l.length false) a noFacts (by simp) (by simpa using hB.2) (fun _ _ => rfl) (fun _ _ _ _ h => h) ⟨_, hC, fun _ => trivial⟩ h
 simpa using this
theorem wpG_nil {Q : Act → Facts → Prop} {i : Nat} {a : Act} {F : Facts} (h : Q a F) : wpG P ops E C rel Q i [] a F := h
theorem wpG_calc {Q : Act → Facts → Prop} {i : Nat} {o : Oper} {rest : List Oper} {a : Act} {F : Facts} (j : Nat) (hj : i + 1 = j) (hr : rel i = none) {v : Value} (hw : Region.wanted o (yielded ops a.tmps) = true)
  (h : ∀ w, (execOp a.eval o).run P w = .ok (.value v) w) (hn : wpG P ops E C rel Q j rest (a.put o.dst v) (upd F i fun _ => True)) : wpG P ops E C rel Q i (o :: rest) a F := by
 subst hj
 refine ⟨fun u _ => u = v, .inr (.inl ⟨hw, hr, v, rfl, fun w _ _ => by rw [h w]; exact ⟨rfl, rfl⟩⟩), fun u hu => ?_⟩
 obtain ⟨w, _, hh⟩ := hu
 have := hh i
 rw [upd_same] at this
 subst this
 have e : upd F i ((fun x _ => x = u) u) = upd F i fun _ => True := by congr 1; funext; simp
 rw [e]
 exact hn
theorem zgc {Q : Act → Facts → Prop} {i : Nat} {o : Oper} {rest : List Oper} {a : Act} {F : Facts} {v : Value} (j : Nat) (hn : wpG P ops E C rel Q j rest (a.put o.dst v) (upd F i fun _ => True)) (hj : i + 1 = j := by rfl) (hr : rel i = none := by rfl) (hw : Region.wanted o (yielded ops a.tmps) = true := by rfl)
 (h : ∀ w, (execOp a.eval o).run P w = .ok (.value v) w := by intro u; go_simp; rfl) : wpG P ops E C rel Q i (o :: rest) a F := wpG_calc j hj hr hw h hn
theorem wpG_read {Q : Act → Facts → Prop} {i : Nat} {o : Oper} {rest : List Oper} {a : Act} {F : Facts} (j : Nat) (hj : i + 1 = j) (hr : rel i = none) (v : Value) (hw : Region.wanted o (yielded ops a.tmps) = true)
  (h : ∀ w, C w → Has ops o F w → (execOp a.eval o).run P w = .ok (.value v) w) (hn : wpG P ops E C rel Q j rest (a.put o.dst v) (upd F i fun _ => True)) : wpG P ops E C rel Q i (o :: rest) a F := by
 subst hj
 refine ⟨fun u _ => u = v, .inr (.inl ⟨hw, hr, v, rfl, fun w hc hh => by rw [h w hc hh]; exact ⟨rfl, rfl⟩⟩), fun u hu => ?_⟩
 obtain ⟨w, _, hh⟩ := hu
 have := hh i
 rw [upd_same] at this
 subst this
 have e : upd F i ((fun x _ => x = u) u) = upd F i fun _ => True := by congr 1; funext; simp
 rw [e]
 exact hn
theorem wpG_skip {Q : Act → Facts → Prop} {i : Nat} {o : Oper} {rest : List Oper} {a : Act} {F : Facts} (j : Nat) (hj : i + 1 = j) (hw : Region.wanted o (yielded ops a.tmps) = false)
  (hn : wpG P ops E C rel Q j rest (a.put o.dst undef) (upd F i fun _ => True)) : wpG P ops E C rel Q i (o :: rest) a F := by
 subst hj
 refine ⟨fun u _ => u = undef, .inr (.inr ⟨hw, rfl⟩), fun u hu => ?_⟩
 obtain ⟨w, _, hh⟩ := hu
 have := hh i
 rw [upd_same] at this
 subst this
 have e : upd F i ((fun x _ => x = undef) undef) = upd F i fun _ => True := by congr 1; funext; simp
 rw [e]
 exact hn
theorem wpG_rel {Q : Act → Facts → Prop} {i : Nat} {o : Oper} {rest : List Oper} {a : Act} {F : Facts} (j : Nat) (hj : i + 1 = j) {R : Value → World → Prop} (hr : rel i = some R) (hw : Region.wanted o (yielded ops a.tmps) = true)
  (h : ∀ w, C w → Has ops o F w → growUpon P (fun u w' => R u w' ∧ E w w') ((execOp a.eval o).run P w))
  (hn : ∀ v, (∃ w, C w ∧ R v w) → wpG P ops E C rel Q j rest (a.put o.dst v) (upd F i (R v))) : wpG P ops E C rel Q i (o :: rest) a F := by
 subst hj
 refine ⟨R, .inl ⟨hw, hr, h⟩, fun v hv => hn v ?_⟩
 obtain ⟨w, hc, hh⟩ := hv
 have := hh i
 rw [upd_same] at this
 exact ⟨w, hc, this⟩
end
def relOf : List (Nat × (Value → World → Prop)) → Nat → Option (Value → World → Prop)
 | [], _ => none
 | (k, R) :: l, i => if i = k then some R else relOf l i
def StayAll : List (Nat × (Value → World → Prop)) → Prop
 | [] => True
 | (_, R) :: l => (∀ v w w', RowKit.Below w.heap.size w w' → R v w → R v w') ∧ StayAll l
theorem relOf_stays : ∀ (l : List (Nat × (Value → World → Prop))), StayAll l → ∀ i R, relOf l i = some R → ∀ v w w', RowKit.Below w.heap.size w w' → R v w → R v w'
 | [], _, _, _, h => by cases h
 | (k, R') :: l, hs, i, R, h => by
  unfold relOf at h
  split at h
  ·cases h; exact hs.1
  ·exact relOf_stays l hs.2 i R h
open RowKit
theorem wp_region_ext {P : Program} {id : Nat} {Q : Exit → Act → World → Prop} {a : Act} {w : World} {l : List Oper} (rels : List (Nat × (Value → World → Prop))) (hs : StayAll rels)
  (hm : P.follows .mixedOrders = true) (hB : Region.lexB .any l.toArray = true)
  (h : wpG P l.toArray (fun u u' => Below u.heap.size u u') (fun u => Below w.heap.size w u) (relOf rels) (fun a' F => ∀ w', Below w.heap.size w w' → (∀ k, F k w') → Q .normal a' w') 0 l a noFacts) : (Code.region id l.toArray true).wp P Q a w :=
 wp_region_grow _ _ _ ⟨fun _ => Below.refl _ _, fun _ _ h1 h2 => h1.trans (h2.mono h1.size), relOf_stays rels hs⟩ ((Below.refl _ _).drew) hm hB h
section
variable {P : Program} {ops : Array Oper} {E : World → World → Prop} {C : World → Prop} {rel : Nat → Option (Value → World → Prop)}
theorem wpG_row {Q : Act → Facts → Prop} {i : Nat} {o : Oper} {rest : List Oper} {a : Act} {F : Facts} (j : Nat) (hj : i + 1 = j) (hr : rel i = none) (hw : Region.wanted o (yielded ops a.tmps) = true)
  (ty : TypeId) (x : Operand) (ho : o.op = .load ty x) (g : Nat) (hx : a.eval x = .pointer (some ⟨g, 0, none⟩)) (t : TypeId) (cs : Array Value) (fr : Nat × Nat) (d : TypeDesc)
  (hu : P.underlying ty = some d) (hd : (match d with | .struct _ | .array _ _ => true | _ => false) = true) (hi : (P.info? ty).map (·.size) = some cs.size)
  (hg : ∀ w, C w → w.heap[g]? = some (.cells cs t fr)) (hn : wpG P ops E C rel Q j rest (a.put o.dst (.agg cs)) (upd F i fun _ => True)) : wpG P ops E C rel Q i (o :: rest) a F := by
 refine wpG_read j hj hr (.agg cs) hw (fun w hc _ => ?_) hn
 unfold execOp
 simp only [ho, hx, Instr.loadAt, Instr.sureAddr, Sem.run_bind, Sem.run_pure, Result.andThen_ok, run_loadVar_row w g t ty cs fr d (hg w hc) hu hd hi]
theorem run_loadVar_flat (w : World) (b off : Nat) (ty : TypeId) (cs : Array Value) (d : TypeDesc) (hg : ∀ j, j < cs.size → w.cell? ⟨b, off + j, none⟩ = cs[j]?)
  (hu : P.underlying ty = some d) (hd : (match d with | .struct _ | .array _ _ => true | _ => false) = true) (hi : (P.info? ty).map (·.size) = some cs.size) :
  (loadVar ty ⟨b, off, none⟩).run P w = .ok (.agg cs) w := by
 have hl : (loadCells ⟨b, off, none⟩ cs.toList.length).run P w = .ok cs.toList.toArray w :=
  run_loadCells_list (P := P) w ⟨b, off, none⟩ cs.toList (fun j v hv => by
   rw [Addr.add_lit, hg j (by have := (List.getElem?_eq_some_iff.1 hv).1; simpa using this)]
   simpa using hv)
 cases hq : P.info? ty with
 | none => simp [hq] at hi
 | some i =>
  have hs : i.size = cs.size := by simpa [hq] using hi
  have hagg : (isAgg ty).run P w = .ok true w := by
   unfold isAgg
   rw [Sem.run_bind, run_underlying hu w]
   cases d <;> simp_all
  simp only [Array.length_toList, Array.toArray_toList] at hl
  simp [loadVar, Sem.run_bind, hagg, sizeOf, typeInfo, hq, hs, hl]
end
def is (x : Value) : Value → World → Prop := fun v _ => v = x
theorem is_stays (x : Value) : ∀ v w w', Below w.heap.size w w' → is x v w → is x v w' := fun _ _ _ _ h => h
section
variable {P : Program} {ops : Array Oper} {md : Region.Mode} {E : World → World → Prop} {C : World → Prop} {rel : Nat → Option (Value → World → Prop)}
def wpAnyH (P : Program) (md : Region.Mode) (ops : Array Oper) (E : World → World → Prop) (C : World → Prop) (rel : Nat → Option (Value → World → Prop)) (n : Nat) (L : Array Bool → Act → Facts → Prop) : Nat → Array Bool → Act → Facts → Prop
 | 0, listed, a, F => L listed a F
 | f + 1, listed, a, F => Region.ready md ops listed ≠ [] ∧ ∀ i ∈ Region.ready md ops listed, i < n ∧ gOp P ops E C rel i (wpAnyH P md ops E C rel n L f (listed.setIfInBounds i true)) a F
theorem wpAny_of_headG {n g : Nat} {L : Array Bool → Act → Facts → Prop} {Q' : Exit → Act → World → Prop} (ft : Fit E C rel) (hL : ∀ listed a F w, C w → (∀ k, F k w) → L listed a F → wpAny P md ops Q' g listed a w) :
  ∀ (f : Nat) (listed : Array Bool) (a : Act) (F : Facts) (w : World), C w → (∀ k, F k w) → Stable E F → wpAnyH P md ops E C rel n L f listed a F → wpAny P md ops Q' (f + g) listed a w
 | 0, listed, a, F, w, hC, hF, _, h => by rw [Nat.zero_add]; exact hL _ _ _ _ hC hF h
 | f + 1, listed, a, F, w, hC, hF, hS, h => by
  rw [show f + 1 + g = (f + g) + 1 by omega]
  refine ⟨fun h0 => absurd h0 h.1, fun i hi => ?_⟩
  have h2 := (h.2 i hi).2
  obtain ⟨_, o, ho, _⟩ := mem_ready.1 hi
  simp only [gOp, ho] at h2
  obtain ⟨R, hg, hn⟩ := h2
  refine good_run ho ft hg hC hF fun v w' hR hE => ?_
  have hF' : ∀ k, upd F i (R v) k w' := fun k => by
   by_cases hki : k = i
   ·subst hki; rw [upd_same]; exact hR
   ·rw [upd_ne _ _ _ hki]; exact hS k w w' hE (hF k)
  have hC' := ft.keeps w w' hC hE
  exact wpAny_of_headG ft hL f _ _ _ _ hC' hF' (stable_upd hS (good_stays ft hg)) (hn v ⟨w', hC', hF'⟩)
theorem wpAnyH_first {n i : Nat} {oi : Oper} {Ri : Value → World → Prop} {L : Array Bool → Act → Facts → Prop} (ft : Fit E C rel) (hi : ops[i]? = some oi) (hsel : ∀ (j : Nat) (o : Oper) cs b, ops[j]? = some o → o.op ≠ .select cs b)
  (hs : Region.sinkB md ops n = true) (hc : Region.chainB md ops n = true) (hn : n < ops.size) (hin : i < n)
  (hdone : ∀ listed a F, L listed a F → ∀ j ∈ Region.ready md ops listed, n ≤ j) :
  ∀ (f : Nat) (listed : Array Bool) (a : Act) (F : Facts), HeadInv md ops n listed →
   (∀ j oj, ops[j]? = some oj → j ≠ i → listed.getD j true = false → (∀ e ∈ oj.after, Region.binds md e = true → e.on ≠ i) → oi.apart ops oj = true) →
   i ∈ Region.ready md ops listed → (∀ k, listed.getD k true = false → F k = fun _ => True) → Stable E F → Con C F → Good P ops E C rel Ri i oi a F →
   (∀ v, Con C (upd F i (Ri v)) → wpAnyH P md ops E C rel n L f (listed.setIfInBounds i true) (a.put oi.dst v) (upd F i (Ri v))) → wpAnyH P md ops E C rel n L (f + 1) listed a F := by
 intro f
 induction f with
 | zero =>
  intro listed a F inv _ hr _ hS hcon hy H
  have hun := (mem_ready.1 hr).1
  refine ⟨fun h => (by rw [h] at hr; cases hr), fun j hj => ?_⟩
  have hjn : j < n := by
   rcases Nat.lt_or_ge j n with h | h
   ·exact h
   ·exact absurd hj (tail_waits hs hc hn inv _ i rfl hin hun j h)
  refine ⟨hjn, ?_⟩
  by_cases hji : j = i
  ·subst hji; simp only [gOp, hi]; exact ⟨Ri, hy, H⟩
  ·obtain ⟨v, hv⟩ := good_some ft hS hy hcon
   have := hdone _ _ _ (H v hv) j (ready_mono hj hji)
   omega
 | succ f ih =>
  intro listed a F inv hfree hr hun hS hcon hy H
  have hiun := (mem_ready.1 hr).1
  refine ⟨fun h => (by rw [h] at hr; cases hr), fun j hj => ?_⟩
  have hjn : j < n := by
   rcases Nat.lt_or_ge j n with h | h
   ·exact h
   ·exact absurd hj (tail_waits hs hc hn inv _ i rfl hin hiun j h)
  refine ⟨hjn, ?_⟩
  by_cases hji : j = i
  ·subst hji; simp only [gOp, hi]; exact ⟨Ri, hy, H⟩
  ·obtain ⟨hjun, oj, hoj, hall⟩ := mem_ready.1 hj
   have hnot : ∀ e ∈ oj.after, Region.binds md e = true → e.on ≠ i := fun e he hb heq => by
    have h1 := hall e he hb
    rw [heq, getD_both hiun] at h1
    cases h1
   obtain ⟨q1, q2, q3⟩ := Oper.apart_spec (hfree j oj hoj hji hjun hnot)
   have hsi : ∀ cs b, oi.op ≠ .select cs b := fun cs b => hsel i oi cs b hi
   have hsj : ∀ cs b, oj.op ≠ .select cs b := fun cs b => hsel j oj cs b hoj
   have getj : ∀ v, Con C (upd F i (Ri v)) → ∃ R, Good P ops E C rel R j oj a F ∧ ∀ u, Con C (upd (upd F i (Ri v)) j (R u)) →
     wpAnyH P md ops E C rel n L f ((listed.setIfInBounds i true).setIfInBounds j true) ((a.put oi.dst v).put oj.dst u) (upd (upd F i (Ri v)) j (R u)) := fun v hv => by
    have h1 := ((H v hv).2 j (ready_mono hj hji)).2
    simp only [gOp, hoj] at h1
    obtain ⟨R, hg, hn⟩ := h1
    exact ⟨R, (good_put hi q1 hsj a F v (Ri v)).1 hg, hn⟩
   obtain ⟨v0, hv0⟩ := good_some ft hS hy hcon
   obtain ⟨Rj, hgj, _⟩ := getj v0 hv0
   simp only [gOp, hoj]
   refine ⟨Rj, hgj, fun u hu => ?_⟩
   have hfree' : ∀ k ok, ops[k]? = some ok → k ≠ i → (listed.setIfInBounds j true).getD k true = false →
     (∀ e ∈ ok.after, Region.binds md e = true → e.on ≠ i) → oi.apart ops ok = true := fun k ok hk hki hun' hno => by
    refine hfree k ok hk hki ?_ hno
    by_cases hjk : j = k
    ·subst hjk; exact hjun
    ·rw [getD_set_ne true hjk] at hun'; exact hun'
   have hjs : j < listed.size := by
    rcases Nat.lt_or_ge j listed.size with h' | h'
    ·exact h'
    ·simp [Array.getElem?_eq_none h'] at hjun
   have hun2 : ∀ k, (listed.setIfInBounds j true).getD k true = false → upd F j (Rj u) k = fun _ => True := fun k hk => by
    by_cases hjk : j = k
    ·subst hjk; simp [hjs] at hk
    ·rw [getD_set_ne true hjk] at hk
     funext w
     rw [upd_ne _ _ _ (Ne.symm hjk)]
     exact congrFun (hun k hk) w
   refine ih (listed.setIfInBounds j true) (a.put oj.dst u) (upd F j (Rj u)) (inv.set hj hjn) hfree' (ready_mono hr (Ne.symm hji)) hun2 (stable_upd hS (good_stays ft hgj)) hu ((good_put hoj q3 hsi a F u (Rj u)).2 hy) fun v hv => ?_
   have hv' : Con C (upd F i (Ri v)) := by
    obtain ⟨w, hC, hw⟩ := hv
    refine ⟨w, hC, fun k => ?_⟩
    have := hw k
    by_cases hki : k = i
    ·subst hki; rw [upd_same] at *; exact this
    ·rw [upd_ne _ _ _ hki] at *
     by_cases hkj : k = j
     ·subst hkj; rw [hun k hjun]; trivial
     ·rw [upd_ne _ _ _ hkj] at this; exact this
   obtain ⟨R, hg, hn⟩ := getj v hv'
   have hR := good_unique hcon hg hgj
   subst hR
   rw [upd_comm _ _ _ hji] at hv ⊢
   have := hn u hv
   rw [Array.setIfInBounds_comm _ _ hji, ← Act.put_comm a v u q2]
   exact this
theorem wpAnyH_lex {n g : Nat} {Lq : Act → Facts → Prop} (ft : Fit E C rel) (hsel : Region.noSelect ops = true) (hs : Region.sinkB md ops n = true) (hc : Region.chainB md ops n = true) (hn : n < ops.size) :
  ∀ (l : List Oper) (k : Nat) (listed : Array Bool) (a : Act) (F : Facts), (∀ j, j < l.length → l[j]? = ops[k + j]?) → k + l.length = n → HeadInv md ops n listed →
  Region.lexHead md ops g l.length k listed = true → (∀ k, listed.getD k true = false → F k = fun _ => True) → Stable E F → Con C F → wpG P ops E C rel Lq k l a F →
  wpAnyH P md ops E C rel n (fun listed' a' F' => Region.seqB md ops g n listed' = true ∧ Lq a' F') l.length listed a F
 | [], k, listed, a, F, _, hk, _, hB, _, _, _, h => by
  have : k = n := by simpa using hk
  subst this
  exact ⟨by simpa [Region.lexHead] using hB, h⟩
 | o :: l, k, listed, a, F, hl, hk, inv, hB, hun, hS, hcon, h => by
  have h0 : ops[k]? = some o := by simpa using (hl 0 (by simp)).symm
  simp only [List.length_cons, Region.lexHead, Bool.and_eq_true] at hB
  obtain ⟨⟨hr, hf⟩, hB'⟩ := hB
  have hkn : k < n := by simp only [List.length_cons] at hk; omega
  have hr' : k ∈ Region.ready md ops listed := by simpa using hr
  have hks : k < listed.size := by
   rcases Nat.lt_or_ge k listed.size with h' | h'
   ·exact h'
   ·have := (mem_ready.1 hr').1; simp [Array.getElem?_eq_none h'] at this
  obtain ⟨R, hg, hnx⟩ := h
  exact wpAnyH_first ft h0 (Region.noSelect_spec hsel) hs hc hn hkn (fun listed' a' F' hL => seqB_ready hL.1) l.length listed a F inv (Region.free_spec h0 hf) hr' hun hS hcon hg fun v hv =>
   wpAnyH_lex ft hsel hs hc hn l (k + 1) _ _ _ (fun j hj => by have := hl (j + 1) (by simp; omega); simpa [Nat.add_assoc, Nat.add_comm 1 j] using this) (by simp only [List.length_cons] at hk; omega) (inv.set hr' hkn) hB' (fun m hm => by
    by_cases hkm : k = m
    ·subst hkm; simp [hks] at hm
    ·rw [getD_set_ne true hkm] at hm
     funext w
     rw [upd_ne _ _ _ (Ne.symm hkm)]
     exact congrFun (hun m hm) w) (stable_upd hS (good_stays ft hg)) hv (hnx v hv)
end
theorem wp_region_ext_tail {P : Program} {id : Nat} {Q : Exit → Act → World → Prop} {a : Act} {w : World} {l : List Oper} (n : Nat) (rels : List (Nat × (Value → World → Prop))) (hst : StayAll rels)
  (hm : P.follows .mixedOrders = true) (hB : Region.lexTailB .any l.toArray n = true)
  (h : wpG P l.toArray (fun u u' => Below u.heap.size u u') (fun u => Below w.heap.size w u) (relOf rels) (fun a' F => ∀ w', Below w.heap.size w w' → (∀ k, F k w') → wpList P l.toArray Q (l.drop n) a' w') 0 (l.take n) a noFacts) : (Code.region id l.toArray true).wp P Q a w := by
 simp only [Region.lexTailB, Bool.and_eq_true, decide_eq_true_eq] at hB
 obtain ⟨⟨⟨⟨hsel, hn⟩, hs⟩, hc⟩, hlex⟩ := hB
 have hn' : n < l.length := by simpa using hn
 have htl : (l.take n).length = n := by simp; omega
 have hdl : (l.drop n).length = l.toArray.size - n := by simp
 have ft : Fit (fun u u' => Below u.heap.size u u') (fun u => Below w.heap.size w u) (relOf rels) :=
  ⟨fun u => Below.refl _ _, fun u u' h h2 => h.trans (h2.mono h.size), relOf_stays rels hst⟩
 have hC0 : Below w.heap.size w { w with drawn := w.drawn + 1 } := (Below.refl _ _).drew
 have inv0 : HeadInv .any l.toArray n (Array.replicate l.toArray.size false) :=
  ⟨by simp, fun j oj _ hl => (by rw [getD_replicate_false] at hl; cases hl), fun t _ ht => getD_in (by simpa using ht) (getD_replicate_false _ _)⟩
 have H := wpAnyH_lex (md := .any) (g := l.toArray.size - n) ft hsel hs hc hn (l.take n) 0 _ a noFacts (fun j hj => by
  have hj' : j < n := by rw [htl] at hj; exact hj
  simp [hj']) (by simpa using htl) inv0 (by rw [htl]; exact hlex) (fun _ _ => rfl) (fun _ _ _ _ h => h) ⟨_, hC0, fun _ => trivial⟩ h
 refine wp_region_any hm ?_
 have := wpAny_of_headG (Q' := Q) (g := l.toArray.size - n) ft (fun listed a' F' w' hC hF hL => by
  have := wpAny_of_seq (md := .any) (Q' := Q) (l.drop n) n listed a' w' (fun j => by simp [List.getElem?_drop]) (by rw [hdl]; exact hL.1) (hL.2 w' hC hF)
  rwa [hdl] at this) _ _ _ noFacts _ hC0 (fun _ => trivial) (fun _ _ _ _ h => h) H
 rw [htl, show n + (l.toArray.size - n) = l.toArray.size by omega] at this
 exact this
end Go.Proofs.YtloonnfelgokmaaGreatDoor.grow
