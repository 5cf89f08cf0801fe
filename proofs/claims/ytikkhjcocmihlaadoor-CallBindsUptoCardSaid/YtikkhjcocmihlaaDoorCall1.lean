/- Handles called: what they tell, plainly; the numbers fit their types. No condition. -/
import Derived.Test.YtikkhjcocmihlaaDoorHand8
import Derived.Test.YtikkhjcocmihlaaDoorNum1
set_option linter.unusedSimpArgs false
set_option linter.unusedVariables false
namespace Go.Proofs.YtikkhjcocmihlaaDoor.hands
open Go.RowKit Go.Proofs.YtikkhjcocmihlaaDoor.lib Go.Proofs.YtikkhjcocmihlaaDoor.errs Go.Proofs.YtikkhjcocmihlaaDoor.names Go.Proofs.YtikkhjcocmihlaaDoor.descs Go.Proofs.YtikkhjcocmihlaaDoor.mtypes Go.Proofs.YtikkhjcocmihlaaDoor.nums

/-- a number of a type -/
def Fit (t : List UInt8) (n : Int) : Prop := InR n ∧ (t = [73] → -2147483648 ≤ n ∧ n ≤ 2147483647)
/-- numbers of types -/
def Fits (ts : List (List UInt8)) (az : List Int) : Prop := ts.length = az.length ∧ ∀ (i : Nat) (t : List UInt8) (n : Int), ts[i]? = some t → az[i]? = some n → Fit t n
theorem putL_erase' {ts : List (List UInt8)} {i : Nat} (t : List UInt8) (hi : i ≤ ts.length) : (putL ts i t).eraseIdx i = ts := by
  unfold putL
  have hl : (ts.take i).length = i := by rw [List.length_take]; omega
  rw [List.eraseIdx_append_of_length_le (by omega), hl, Nat.sub_self]
  simp
theorem fits_nil : Fits [] [] := ⟨rfl, fun i t n h => by simp at h⟩
theorem fits_one {t : List UInt8} {n : Int} (h : Fit t n) : Fits [t] [n] := ⟨rfl, fun i t' n' h1 h2 => by
  cases i with
  | zero => simp at h1 h2; rw [← h1, ← h2]; exact h
  | succ i => simp at h1⟩
theorem Fits.at {ts : List (List UInt8)} {az : List Int} (h : Fits ts az) {i : Nat} (hi : i < ts.length) : ∃ hi' : i < az.length, Fit ts[i] az[i] :=
  ⟨h.1 ▸ hi, h.2 i _ _ (List.getElem?_eq_getElem hi) (List.getElem?_eq_getElem (h.1 ▸ hi))⟩
theorem Fits.erase {ts : List (List UInt8)} {az : List Int} (h : Fits ts az) (i : Nat) : Fits (ts.eraseIdx i) (az.eraseIdx i) := by
  refine ⟨by rw [List.length_eraseIdx, List.length_eraseIdx, h.1], fun j t n h1 h2 => ?_⟩
  rw [List.getElem?_eraseIdx] at h1 h2
  by_cases hj : j < i
  · rw [if_pos hj] at h1 h2
    exact h.2 j t n h1 h2
  · rw [if_neg hj] at h1 h2
    exact h.2 (j + 1) t n h1 h2
theorem Fits.set {ts : List (List UInt8)} {az : List Int} {i : Nat} {u t0 : List UInt8} {n0 : Int} (h : Fits (ts.set i u) az) (ht : ts[i]? = some t0) (hn : Fit t0 n0) : Fits ts (az.set i n0) := by
  refine ⟨by rw [List.length_set]; have := h.1; rwa [List.length_set] at this, fun j t n h1 h2 => ?_⟩
  rw [List.getElem?_set] at h2
  by_cases hj : i = j
  · subst hj
    rw [if_pos rfl] at h2
    split at h2
    · rw [ht] at h1
      cases h1; cases h2; exact hn
    · cases h2
  · rw [if_neg hj] at h2
    exact h.2 j t n (by rw [List.getElem?_set, if_neg hj]; exact h1) h2
def insAt (az : List Int) (i : Nat) (n : Int) : List Int := az.take i ++ n :: az.drop i
theorem insAt_len {az : List Int} {i : Nat} (n : Int) (hi : i ≤ az.length) : (insAt az i n).length = az.length + 1 := by
  unfold insAt; rw [List.length_append, List.length_take, List.length_cons, List.length_drop]; omega
theorem insAt_get (az : List Int) (i : Nat) (n : Int) (hi : i ≤ az.length) (j : Nat) : (insAt az i n)[j]? = if j < i then az[j]? else if j = i then some n else az[j - 1]? := by
  unfold insAt
  have hl : (az.take i).length = i := by rw [List.length_take]; omega
  by_cases h1 : j < i
  · rw [if_pos h1, List.getElem?_append_left (by omega), List.getElem?_take, if_pos h1]
  · rw [if_neg h1, List.getElem?_append_right (by omega), hl]
    by_cases h2 : j = i
    · rw [if_pos h2, h2, Nat.sub_self]; rfl
    · rw [if_neg h2, show j - i = (j - i - 1) + 1 from by omega, List.getElem?_cons_succ, List.getElem?_drop]
      congr 1; omega
theorem Fits.ins {ts : List (List UInt8)} {az : List Int} {i : Nat} {t0 : List UInt8} {n0 : Int} (h : Fits (ts.eraseIdx i) az) (ht : ts[i]? = some t0) (hn : Fit t0 n0) : Fits ts (insAt az i n0) := by
  have hi : i < ts.length := (List.getElem?_eq_some_iff.1 ht).1
  have hl := h.1
  rw [List.length_eraseIdx, if_pos hi] at hl
  refine ⟨by rw [insAt_len n0 (by omega)]; omega, fun j t n h1 h2 => ?_⟩
  rw [insAt_get az i n0 (by omega)] at h2
  by_cases hj : j < i
  · rw [if_pos hj] at h2
    exact h.2 j t n (by rw [List.getElem?_eraseIdx, if_pos hj]; exact h1) h2
  · rw [if_neg hj] at h2
    by_cases hj2 : j = i
    · rw [if_pos hj2] at h2
      subst hj2
      rw [ht] at h1
      cases h1; cases h2; exact hn
    · rw [if_neg hj2] at h2
      exact h.2 (j - 1) t n (by rw [List.getElem?_eraseIdx, if_neg (by omega), show j - 1 + 1 = j from by omega]; exact h1) h2
def permA (ats : List Int) (az : List Int) : List Int := ats.map fun z => az.getD z.toNat 0
theorem perm_ok {ms : List (List UInt8)} : ∀ {zs : List Int} {ts : List (List UInt8)}, permErr ms zs ts = 0 → zs.length = ts.length → ∀ (i : Nat) (z : Int) (t : List UInt8), zs[i]? = some z → ts[i]? = some t → 0 ≤ z ∧ z < (ms.length : Int) ∧ ms[z.toNat]? = some t
  | [], _, _, _, i, z, t, hz, _ => by simp at hz
  | z0 :: zs, [], _, hl, i, z, t, _, _ => by simp at hl
  | z0 :: zs, t0 :: ts, h, hl, i, z, t, hz, ht => by
    unfold permErr at h
    by_cases h1 : z0 < 0 ∨ (ms.length : Int) ≤ z0
    · rw [if_pos h1] at h; cases h
    · rw [if_neg h1] at h
      by_cases h2 : ms[z0.toNat]? = some t0
      · rw [if_pos h2] at h
        cases i with
        | zero =>
          simp at hz ht
          subst hz ht
          exact ⟨by omega, by omega, h2⟩
        | succ i => exact perm_ok h (by simpa using hl) i z t (by simpa using hz) (by simpa using ht)
      · rw [if_neg h2] at h; cases h
theorem Fits.perm {ms ts : List (List UInt8)} {zs az : List Int} (h : Fits ms az) (hp : permErr ms zs ts = 0) (hl : zs.length = ts.length) : Fits ts (permA zs az) := by
  refine ⟨by unfold permA; rw [List.length_map, hl], fun i t n h1 h2 => ?_⟩
  unfold permA at h2
  rw [List.getElem?_map] at h2
  cases hz : zs[i]? with
  | none => rw [hz] at h2; cases h2
  | some z =>
    rw [hz] at h2
    obtain ⟨z0, z1, z2⟩ := perm_ok hp hl i z t hz h1
    have h3 : z.toNat < az.length := by rw [← h.1]; omega
    refine h.2 z.toNat t n z2 ?_
    rw [← Option.some.inj h2, List.getElem?_eq_getElem h3]
    simp [List.getD, List.getElem?_eq_getElem h3]

/-- what a handle tells of numbers, of its parts and what its subs tell -/
def oneTold (k : Int) (t : List UInt8) (a : Int) (ats : List Int) (fs : List (List Int → Option Int)) (az : List Int) : Option Int :=
  if k = 1 then some a
  else if k = 3 then (if (ofOf t a (az.headD 0) (az.getLastD 0)).2 = true then some (ofOf t a (az.headD 0) (az.getLastD 0)).1 else none)
  else match fs with
  | [f] => if k = 4 then f (az.eraseIdx a.toNat) else f (permA ats az)
  | [f, g] => if k = 5 then (g []).bind fun n => f (insAt az a.toNat n) else (g [az.getD a.toNat 0]).bind fun n => f (az.set a.toNat n)
  | _ => az.head?
def tolds : Fo → List (List Int → Option Int)
  | .nil => []
  | .cons k t a _ _ ats subs rest => oneTold k t.data.toList a ats (tolds subs) :: tolds rest
def toldN (x : Nd) : List Int → Option Int := oneTold x.k x.t.data.toList x.a x.ats (tolds x.subs)
theorem tolds_nodes : ∀ F : Fo, tolds F = (nodes F).map toldN
  | .nil => rfl
  | .cons k t a va vs ats subs rest => by
    show _ :: tolds rest = _ :: (nodes rest).map toldN
    rw [tolds_nodes rest]; rfl

theorem wrap32_in (a : Int) : InR (wrap32 a) := by unfold InR wrap32; omega
theorem whole_in {k a b : Int} (ha : InR a) (hb : InR b) : InR (wholeOf k a b).1 := by
  unfold wholeOf
  repeat' split
  all_goals dsimp only
  all_goals first | with_reducible exact in_wrap _ | with_reducible exact bits_in _ _ _ | with_reducible exact tmod_in ha hb (by assumption) | (unfold InR; omega)
theorem shift_in {k a : Int} {m : Nat} {long : Bool} (ha : InR a) : InR (shiftOf k a m long) := by
  unfold shiftOf
  repeat' split
  all_goals first | with_reducible exact in_wrap _ | with_reducible exact ediv_in ha m
theorem ofOf_in {t : List UInt8} {k a b : Int} (ha : InR a) (hb : InR b) : InR (ofOf t k a b).1 := by
  unfold ofOf
  simp only
  split
  · exact wrap32_in _
  · split
    · exact shift_in ha
    · exact whole_in ha hb
theorem ofOf_fit {t : List UInt8} {k a b : Int} (ha : InR a) (hb : InR b) : Fit t (ofOf t k a b).1 := ⟨ofOf_in ha hb, fun h => by
  subst h
  show -2147483648 ≤ wrap32 _ ∧ wrap32 _ ≤ 2147483647
  unfold wrap32; omega⟩
theorem fit_wrap (n : Int) : Fit [73] (wrap32 n) := ⟨by unfold InR wrap32; omega, fun _ => by unfold wrap32; omega⟩
/-- what is right of a right handle -/
inductive Right : Nd → List (List UInt8) → List UInt8 → Prop where
  | const {x : Nd} {t : List UInt8} (h1 : x.k = 1) (hs : x.subs = .nil) (h2 : x.t.data.toList = t) (h3 : t = [73] ∨ t = [74]) (h4 : t = [73] → -2147483648 ≤ x.a ∧ x.a ≤ 2147483647) : Right x [] t
  | same {x : Nd} {t : List UInt8} (h1 : x.k = 2) (hs : x.subs = .nil) (h2 : x.t.data.toList = t) (h3 : t = [73] ∨ t = [74]) : Right x [t] t
  | neg {x : Nd} {t : List UInt8} (h1 : x.k = 3) (hs : x.subs = .nil) (h2 : x.t.data.toList = t) (h3 : t = [73] ∨ t = [74]) (h4 : x.a = 12) : Right x [t] t
  | math {x : Nd} {t u : List UInt8} (h1 : x.k = 3) (hs : x.subs = .nil) (h2 : x.t.data.toList = t) (h3 : t = [73] ∨ t = [74]) (h4 : 1 ≤ x.a ∧ x.a ≤ 11) (h5 : u = if 9 ≤ x.a ∧ x.a ≤ 11 then [73] else t) : Right x [t, u] t
  | drop {x y : Nd} {ts : List (List UInt8)} {g : List UInt8} (i : Nat) (h1 : x.k = 4) (hs : nodes x.subs = [y]) (h2 : x.a = (i : Int)) (hi : i ≤ ts.length) (h5 : ts.length < 5) (h6 : isTy x.t.data.toList = true) (hy : Right y ts g) : Right x (putL ts i x.t.data.toList) g
  | perm {x y : Nd} {ts ms : List (List UInt8)} {g : List UInt8} (h1 : x.k = 6) (hs : nodes x.subs = [y]) (hl : x.ats.length = ts.length) (hp : permErr ms x.ats ts = 0) (h5 : ms.length ≤ 5) (hy : Right y ts g) : Right x ms g
  | bind {x y z : Nd} {ts : List (List UInt8)} {g q : List UInt8} (i : Nat) (h1 : x.k = 5) (hs : nodes x.subs = [y, z]) (h2 : x.a = (i : Int)) (hq : ts[i]? = some q) (hy : Right y ts g) (hz : Right z [] q) : Right x (ts.eraseIdx i) g
  | filter {x y z : Nd} {ts : List (List UInt8)} {g q u : List UInt8} (i : Nat) (h1 : x.k = 7) (hs : nodes x.subs = [y, z]) (h2 : x.a = (i : Int)) (hq : ts[i]? = some q) (hy : Right y ts g) (hz : Right z [u] q) : Right x (ts.set i u) g
theorem filled_zero {ts us : List (List UInt8)} {q : List UInt8} {at_ many : Int} (h : filledF ts us q at_ many = 0) : ∃ i : Nat, at_ = (i : Int) ∧ ts[i]? = some q ∧ (us.length : Int) = many := by
  unfold filledF at h
  by_cases h1 : at_ < 0 ∨ (ts.length : Int) ≤ at_
  · rw [if_pos h1] at h; cases h
  rw [if_neg h1] at h
  by_cases h2 : (us.length : Int) ≠ many
  · rw [if_pos h2] at h; cases h
  rw [if_neg h2] at h
  by_cases h3 : ts[at_.toNat]? ≠ some q
  · rw [if_pos h3] at h; cases h
  exact ⟨at_.toNat, by omega, by simpa using h3, by simpa using h2⟩
theorem subs_nil {F : Fo} (h : nodes F = []) : F = .nil := by
  cases F with
  | nil => rfl
  | cons k t a va vs ats subs rest => cases h

/-- a handle of a right type is right -/
theorem right_of : ∀ (N : Nat) (x : Nd) (ts : List (List UInt8)) (g : List UInt8), cnt x ≤ N → (typeN x).1 = 0 → methodOf (typeN x).2 = some (ts, g) → Right x ts g := by
  intro N
  induction N with
  | zero => intro x ts g h; unfold cnt at h; omega
  | succ N ih =>
    intro x ts g hN h0 hm
    have hsub : ∀ y ∈ nodes x.subs, cnt y ≤ N := fun y hy => by
      have h1 : ∀ (F : Fo) (y : Nd), y ∈ nodes F → cnt y ≤ cntF F := by
        intro F
        induction F with
        | nil => intro y hy; cases hy
        | cons k t a va vs ats subs rest _ ih2 =>
          intro y hy
          rcases List.mem_cons.1 hy with rfl | hy
          · show 1 + cntF subs ≤ 1 + cntF subs + cntF rest; omega
          · have := ih2 y hy
            show _ ≤ 1 + cntF subs + cntF rest; omega
      have := h1 _ y hy
      unfold cnt at hN; omega
    unfold typeN nodeType at h0 hm
    rw [types_nodes] at h0 hm
    by_cases hk : isKind x.k = false
    · rw [if_pos hk] at h0; cases h0
    rw [if_neg hk] at h0 hm
    have hk2 : 1 ≤ x.k ∧ x.k ≤ 7 := by unfold isKind at hk; simpa using hk
    rw [List.length_map] at h0 hm
    by_cases hn : ((nodes x.subs).length : Int) ≠ subsN x.k
    · rw [if_pos hn] at h0; cases h0
    rw [if_neg hn] at h0 hm
    have hn' : ((nodes x.subs).length : Int) = subsN x.k := by simpa using hn
    match hns : nodes x.subs with
    | [] =>
      rw [hns] at h0 hm hn'
      simp only [List.map_nil, oneType] at h0 hm
      have hk3 : x.k = 1 ∨ x.k = 2 ∨ x.k = 3 := by
        have : subsN x.k = 0 := by simpa using hn'.symm
        unfold subsN at this
        by_cases h1 : x.k = 4 ∨ x.k = 6
        · rw [if_pos h1] at this; cases this
        rw [if_neg h1] at this
        by_cases h2 : x.k = 5 ∨ x.k = 7
        · rw [if_pos h2] at this; cases this
        omega
      have hw := isWd_ty (leaf_word h0)
      unfold leafS at hm
      rw [if_pos h0, leafT_make, method_make (leaf_make h0)] at hm
      have hsn := subs_nil hns
      simp only [Option.some.injEq, Prod.mk.injEq] at hm
      obtain ⟨hm1, hm2⟩ := hm
      subst hm2
      rcases hk3 with h1 | h1 | h1
      · rw [if_pos h1] at hm1
        subst hm1
        refine .const h1 hsn rfl hw fun hI => ?_
        unfold leafF at h0
        rw [h1] at h0
        by_cases c1 : isWd x.t.data.toList = false ∨ ((1 : Int) = 3 ∧ (x.a < 1 ∨ 12 < x.a))
        · rw [if_pos c1] at h0; cases h0
        rw [if_neg c1] at h0
        by_cases c2 : (1 : Int) = 1 ∧ x.t.data.toList = [73] ∧ ¬ (-2147483648 ≤ x.a ∧ x.a ≤ 2147483647)
        · rw [if_pos c2] at h0; cases h0
        by_cases c3 : -2147483648 ≤ x.a ∧ x.a ≤ 2147483647
        · exact c3
        · exact absurd ⟨rfl, hI, c3⟩ c2
      · rw [if_neg (by omega), if_pos (.inl h1)] at hm1
        subst hm1
        exact .same h1 hsn rfl hw
      · have hr : 1 ≤ x.a ∧ x.a ≤ 12 := by
          unfold leafF at h0
          by_cases c1 : isWd x.t.data.toList = false ∨ (x.k = 3 ∧ (x.a < 1 ∨ 12 < x.a))
          · rw [if_pos c1] at h0; cases h0
          · have : ¬ (x.a < 1 ∨ 12 < x.a) := fun h => c1 (.inr ⟨h1, h⟩)
            omega
        by_cases c : x.a = 12
        · rw [if_neg (by omega), if_pos (.inr c)] at hm1
          subst hm1
          exact .neg h1 hsn rfl hw c
        · rw [if_neg (by omega), if_neg (by omega)] at hm1
          subst hm1
          exact .math h1 hsn rfl hw (by omega) rfl
    | [y] =>
      rw [hns] at h0 hm hn'
      simp only [List.map_cons, List.map_nil, oneType] at h0 hm
      have hk3 : x.k = 4 ∨ x.k = 6 := by
        have : subsN x.k = 1 := by simpa using hn'.symm
        unfold subsN at this
        by_cases h1 : x.k = 4 ∨ x.k = 6
        · exact h1
        rw [if_neg h1] at this
        by_cases h2 : x.k = 5 ∨ x.k = 7
        · rw [if_pos h2] at this; cases this
        rw [if_neg h2] at this; cases this
      by_cases hy0 : (typeN y).1 ≠ 0
      · rw [if_pos hy0] at h0; exact absurd h0 hy0
      rw [if_neg hy0] at h0 hm
      have hy1 : (typeN y).1 = 0 := by simpa using hy0
      obtain ⟨us, q, hmy⟩ := right_typeN y hy1
      have hy := ih y us q (hsub y (by rw [hns]; exact List.mem_singleton.2 rfl)) hy1 hmy
      rcases hk3 with h1 | h1
      · rw [if_pos h1] at h0 hm
        unfold putOf at h0 hm
        rw [hmy] at h0 hm
        simp only at h0 hm
        by_cases c1 : x.a < 0 ∨ (us.length : Int) < x.a
        · rw [if_pos c1] at h0; cases h0
        rw [if_neg c1] at h0 hm
        by_cases c2 : isTy x.t.data.toList = true
        · rw [if_pos c2] at h0 hm
          by_cases c3 : us.length = 5
          · rw [if_pos c3] at h0; cases h0
          rw [if_neg c3] at h0 hm
          have hi : x.a.toNat ≤ us.length := by omega
          have hf := (fault_put hmy c2 hi).2
          rw [if_neg c3] at hf
          simp only at hm
          rw [method_make hf] at hm
          simp only [Option.some.injEq, Prod.mk.injEq] at hm
          obtain ⟨rfl, rfl⟩ := hm
          exact .drop x.a.toNat h1 hns (by omega) hi (by have := (types_small hmy).1; omega) c2 hy
        · rw [if_neg c2] at h0; cases h0
      · rw [if_neg (by omega)] at h0 hm
        unfold permuteOf at h0 hm
        rw [hmy] at h0 hm
        simp only at h0 hm
        cases hmA : methodOf x.t.data.toList with
        | none => rw [hmA] at h0; cases h0
        | some r =>
          obtain ⟨ms, g2⟩ := r
          rw [hmA] at h0 hm
          simp only at h0 hm
          by_cases c1 : x.ats.length = us.length
          · rw [if_pos c1] at h0 hm
            by_cases c2 : permErr ms x.ats us = 0
            · rw [if_pos c2] at h0 hm
              simp only at hm
              rw [method_make (fault_two hmy hmA)] at hm
              simp only [Option.some.injEq, Prod.mk.injEq] at hm
              obtain ⟨rfl, rfl⟩ := hm
              exact .perm h1 hns c1 c2 (types_small hmA).1 hy
            · rw [if_neg c2] at h0; exact absurd h0 c2
          · rw [if_neg c1] at h0; cases h0
    | y :: z :: r =>
      rw [hns] at h0 hm hn'
      simp only [List.map_cons, oneType] at h0 hm
      have hk3 : (x.k = 5 ∨ x.k = 7) ∧ r = [] := by
        have h2 : ((r.length + 2 : Nat) : Int) = subsN x.k := by rw [← hn']; rfl
        unfold subsN at h2
        by_cases h1 : x.k = 4 ∨ x.k = 6
        · rw [if_pos h1] at h2; omega
        rw [if_neg h1] at h2
        by_cases h3 : x.k = 5 ∨ x.k = 7
        · rw [if_pos h3] at h2
          exact ⟨h3, List.eq_nil_of_length_eq_zero (by omega)⟩
        rw [if_neg h3] at h2; omega
      obtain ⟨hk3, rfl⟩ := hk3
      by_cases hy0 : (typeN y).1 ≠ 0
      · rw [if_pos hy0] at h0; exact absurd h0 hy0
      rw [if_neg hy0] at h0 hm
      have hy1 : (typeN y).1 = 0 := by simpa using hy0
      by_cases hz0 : (typeN z).1 ≠ 0
      · rw [if_pos hz0] at h0; exact absurd h0 hz0
      rw [if_neg hz0] at h0 hm
      have hz1 : (typeN z).1 = 0 := by simpa using hz0
      obtain ⟨us, q, hmy⟩ := right_typeN y hy1
      obtain ⟨vs, p, hmz⟩ := right_typeN z hz1
      have hy := ih y us q (hsub y (by rw [hns]; exact List.mem_cons_self ..)) hy1 hmy
      have hz := ih z vs p (hsub z (by rw [hns]; exact List.mem_cons_of_mem _ (List.mem_cons_self ..))) hz1 hmz
      unfold bindType at h0 hm
      rw [hmy, hmz] at h0 hm
      simp only at h0 hm
      by_cases c0 : filledF us vs p x.a (if x.k = 5 then 0 else 1) ≠ 0
      · rw [if_pos c0] at h0; exact absurd h0 c0
      rw [if_neg c0] at h0 hm
      obtain ⟨i, hi, hq, hlen⟩ := filled_zero (by simpa using c0)
      have hiu : i < us.length := (List.getElem?_eq_some_iff.1 hq).1
      by_cases h5 : x.k = 5
      · rw [if_pos h5] at h0 hm hlen
        obtain rfl : vs = [] := List.eq_nil_of_length_eq_zero (by omega)
        unfold dropOf at h0 hm
        rw [hmy] at h0 hm
        simp only at h0 hm
        rw [if_neg (by omega)] at hm
        simp only at hm
        rw [method_make (fault_erase hmy).1] at hm
        simp only [Option.some.injEq, Prod.mk.injEq] at hm
        obtain ⟨rfl, rfl⟩ := hm
        rw [show x.a.toNat = i from by omega]
        exact .bind i h5 hns hi hq hy hz
      · rw [if_neg h5] at h0 hm hlen
        match vs, hlen with
        | [v], _ =>
          simp only [List.headD_cons] at h0 hm
          unfold changeOf at h0 hm
          rw [hmy] at h0 hm
          simp only at h0 hm
          rw [if_neg (by omega)] at h0 hm
          by_cases c2 : isTy v = true
          · rw [if_pos c2] at h0 hm
            simp only at hm
            rw [method_make (fault_set hmy c2).1] at hm
            simp only [Option.some.injEq, Prod.mk.injEq] at hm
            obtain ⟨rfl, rfl⟩ := hm
            rw [show x.a.toNat = i from by omega]
            exact .filter i (by omega) hns hi hq hy hz
          · rw [if_neg c2] at h0; cases h0

/-- an element of a list of numbers that fit -/
theorem Fits.in_ {ts : List (List UInt8)} {az : List Int} (h : Fits ts az) : ∀ n ∈ az, InR n := fun n hn => by
  obtain ⟨i, hi, rfl⟩ := List.mem_iff_getElem.1 hn
  exact (h.2 i _ _ (List.getElem?_eq_getElem (h.1 ▸ hi)) (List.getElem?_eq_getElem hi)).1
/-- its numbers are of 64 bits -/
def NumF : Fo → Prop
  | .nil => True
  | .cons _ _ a _ _ _ subs rest => InR a ∧ NumF subs ∧ NumF rest
def NumN (x : Nd) : Prop := InR x.a ∧ NumF x.subs
theorem num_at : ∀ {F : Fo} {y : Nd}, NumF F → y ∈ nodes F → NumN y
  | .nil, y, _, hy => by cases hy
  | .cons k t a va vs ats subs rest, y, h, hy => by
    rcases List.mem_cons.1 hy with rfl | hy
    · exact ⟨h.1, h.2.1⟩
    · exact num_at h.2.2 hy
theorem told_one {x y : Nd} {az : List Int} (hs : nodes x.subs = [y]) (h1 : ¬ x.k = 1) (h3 : ¬ x.k = 3) : toldN x az = if x.k = 4 then toldN y (az.eraseIdx x.a.toNat) else toldN y (permA x.ats az) := by
  unfold toldN oneTold
  rw [if_neg h1, if_neg h3, tolds_nodes, hs]; rfl
theorem told_two {x y z : Nd} {az : List Int} (hs : nodes x.subs = [y, z]) (h1 : ¬ x.k = 1) (h3 : ¬ x.k = 3) :
    toldN x az = if x.k = 5 then (toldN z []).bind fun n => toldN y (insAt az x.a.toNat n) else (toldN z [az.getD x.a.toNat 0]).bind fun n => toldN y (az.set x.a.toNat n) := by
  unfold toldN oneTold
  rw [if_neg h1, if_neg h3, tolds_nodes, hs]; rfl
/-- what a right handle tells of numbers that fit fits its result's type -/
theorem told_fit {x : Nd} {ts : List (List UInt8)} {g : List UInt8} (h : Right x ts g) : NumN x → ∀ (az : List Int) (n : Int), Fits ts az → toldN x az = some n → Fit g n := by
  induction h with
  | const h1 hs h2 h3 h4 =>
    intro hx az n hf ht
    unfold toldN oneTold at ht
    rw [if_pos h1] at ht
    cases ht
    exact ⟨hx.1, h4⟩
  | @same x t h1 hs h2 h3 =>
    intro hx az n hf ht
    unfold toldN oneTold at ht
    rw [if_neg (by omega), if_neg (by omega), hs] at ht
    simp only [tolds] at ht
    rw [List.head?_eq_getElem?] at ht
    exact hf.2 0 _ n rfl ht
  | @neg x t h1 hs h2 h3 h4 =>
    intro hx az n hf ht
    unfold toldN oneTold at ht
    rw [if_neg (by omega), if_pos h1] at ht
    match az, hf.1 with
    | [a], _ =>
      split at ht
      · have ha : InR a := hf.in_ a (by simp)
        rw [← Option.some.inj ht, h2]
        exact ofOf_fit ha ha
      · cases ht
  | @math x t u h1 hs h2 h3 h4 h5 =>
    intro hx az n hf ht
    unfold toldN oneTold at ht
    rw [if_neg (by omega), if_pos h1] at ht
    match az, hf.1 with
    | [a, b], _ =>
      split at ht
      · have ha : InR a := hf.in_ a (by simp)
        have hb : InR b := hf.in_ b (by simp)
        rw [← Option.some.inj ht, h2]
        exact ofOf_fit ha hb
      · cases ht
  | @drop x y ts g i h1 hs h2 hi h5 h6 hy ih =>
    intro hx az n hf ht
    rw [told_one hs (by omega) (by omega), if_pos h1] at ht
    have hf2 := hf.erase i
    rw [putL_erase' _ hi] at hf2
    exact ih (num_at hx.2 (by rw [hs]; exact List.mem_singleton.2 rfl)) _ n (by rw [show x.a.toNat = i from by omega]; exact hf2) ht
  | @perm x y ts ms g h1 hs hl hp h5 hy ih =>
    intro hx az n hf ht
    rw [told_one hs (by omega) (by omega), if_neg (by omega)] at ht
    exact ih (num_at hx.2 (by rw [hs]; exact List.mem_singleton.2 rfl)) _ n (hf.perm hp hl) ht
  | @bind x y z ts g q i h1 hs h2 hq hy hz ihy ihz =>
    intro hx az n hf ht
    rw [told_two hs (by omega) (by omega), if_pos h1] at ht
    cases hn : toldN z [] with
    | none => rw [hn] at ht; cases ht
    | some m =>
      rw [hn] at ht
      have hm := ihz (num_at hx.2 (by rw [hs]; exact List.mem_cons_of_mem _ (List.mem_cons_self ..))) [] m fits_nil hn
      exact ihy (num_at hx.2 (by rw [hs]; exact List.mem_cons_self ..)) _ n (by rw [show x.a.toNat = i from by omega]; exact hf.ins hq hm) ht
  | @filter x y z ts g q u i h1 hs h2 hq hy hz ihy ihz =>
    intro hx az n hf ht
    rw [told_two hs (by omega) (by omega), if_neg (by omega)] at ht
    have hi : i < ts.length := (List.getElem?_eq_some_iff.1 hq).1
    obtain ⟨hi', hfi⟩ := hf.at (i := i) (by rw [List.length_set]; exact hi)
    rw [List.getElem_set_self] at hfi
    have e : az.getD x.a.toNat 0 = az[i] := by rw [show x.a.toNat = i from by omega]; simp [List.getD, List.getElem?_eq_getElem hi']
    rw [e] at ht
    cases hn : toldN z [az[i]] with
    | none => rw [hn] at ht; cases ht
    | some m =>
      rw [hn] at ht
      have hm := ihz (num_at hx.2 (by rw [hs]; exact List.mem_cons_of_mem _ (List.mem_cons_self ..))) _ m (fits_one hfi) hn
      exact ihy (num_at hx.2 (by rw [hs]; exact List.mem_cons_self ..)) _ n (by rw [show x.a.toNat = i from by omega]; exact hf.set hq hm) ht
theorem right_len {x : Nd} {ts : List (List UInt8)} {g : List UInt8} (h : Right x ts g) : ts.length ≤ 5 := by
  induction h with
  | const => exact Nat.zero_le _
  | same => simp
  | neg => simp
  | math => simp
  | drop i h1 hs h2 hi h5 h6 hy ih => rw [putL_len _ hi]; omega
  | perm h1 hs hl hp h5 hy ih => exact h5
  | bind i h1 hs h2 hq hy hz ihy ihz => rw [List.length_eraseIdx]; split <;> omega
  | filter i h1 hs h2 hq hy hz ihy ihz => rw [List.length_set]; exact ihy
theorem told_const {x : Nd} {az : List Int} (h : x.k = 1) : toldN x az = some x.a := by unfold toldN oneTold; rw [if_pos h]
theorem told_same {x : Nd} {a : Int} {r : List Int} (h : x.k = 2) (hs : x.subs = .nil) : toldN x (a :: r) = some a := by
  unfold toldN oneTold; rw [if_neg (by omega), if_neg (by omega), hs]; rfl
theorem told_math {x : Nd} {az : List Int} (h : x.k = 3) : toldN x az = if (ofOf x.t.data.toList x.a (az.headD 0) (az.getLastD 0)).2 = true then some (ofOf x.t.data.toList x.a (az.headD 0) (az.getLastD 0)).1 else none := by
  unfold toldN oneTold; rw [if_neg (by omega), if_pos h]
end Go.Proofs.YtikkhjcocmihlaaDoor.hands
