/- Handles: a tree of handles in memory, by forests (a node's subs, and its brothers behind it); how many they are: hand.count and the reference's HandleSize. Condition: they are not too many. -/
import Derived.Test.YtikkhjcocmihlaaDoorErrV
set_option linter.unusedSimpArgs false
set_option linter.unusedVariables false
namespace Go.Proofs.YtikkhjcocmihlaaDoor.hands
open Go.RowKit Go.Proofs.YtikkhjcocmihlaaDoor.lib

/-- handles beside each other: the first one's parts, its subs, its brothers -/
inductive Fo where
  | nil : Fo
  | cons (k : Int) (t : ByteArray) (a : Int) (va vs : Value) (ats : List Int) (subs rest : Fo) : Fo
/-- one handle -/
structure Nd where
  k : Int
  t : ByteArray
  a : Int
  va : Value
  vs : Value
  ats : List Int
  subs : Fo
def Nd.cells (x : Nd) : List Value := [.int .i64 x.k, .string x.t, .int .i64 x.a, x.va, x.vs]
def nodes : Fo → List Nd
  | .nil => []
  | .cons k t a va vs ats subs rest => ⟨k, t, a, va, vs, ats, subs⟩ :: nodes rest
def cntF : Fo → Nat
  | .nil => 0
  | .cons _ _ _ _ _ _ subs rest => 1 + cntF subs + cntF rest
/-- how many a handle is -/
def cnt (x : Nd) : Nat := 1 + cntF x.subs
/-- they lie in memory -/
def FAt (w : World) : Fo → Prop
  | .nil => True
  | .cons _ _ _ va vs ats subs rest => (Sl w va ats.length 1 (ats.map (.int .i64)) ∧ Sl w vs (nodes subs).length 5 ((nodes subs).flatMap Nd.cells)) ∧ FAt w subs ∧ FAt w rest
def NAt (w : World) (x : Nd) : Prop := (Sl w x.va x.ats.length 1 (x.ats.map (.int .i64)) ∧ Sl w x.vs (nodes x.subs).length 5 ((nodes x.subs).flatMap Nd.cells)) ∧ FAt w x.subs
theorem FAt.below {w w' : World} (hb : Below w.heap.size w w') : ∀ {F : Fo}, FAt w F → FAt w' F
  | .nil, _ => trivial
  | .cons _ _ _ _ _ _ _ _, ⟨⟨h1, h2⟩, h3, h4⟩ => ⟨⟨h1.below hb, h2.below hb⟩, FAt.below hb h3, FAt.below hb h4⟩
theorem NAt.below {w w' : World} {x : Nd} (h : NAt w x) (hb : Below w.heap.size w w') : NAt w' x := ⟨⟨h.1.1.below hb, h.1.2.below hb⟩, FAt.below hb h.2⟩
theorem node_at {w : World} : ∀ {F : Fo} {x : Nd}, FAt w F → x ∈ nodes F → NAt w x ∧ cnt x ≤ cntF F
  | .nil, x, _, hx => by cases hx
  | .cons k t a va vs ats subs rest, x, h, hx => by
    obtain ⟨h1, h2, h3⟩ := h
    rcases List.mem_cons.1 hx with rfl | hx
    · exact ⟨⟨h1, h2⟩, by show 1 + cntF subs ≤ 1 + cntF subs + cntF rest; omega⟩
    · obtain ⟨h4, h5⟩ := node_at h3 hx
      exact ⟨h4, by show _ ≤ 1 + cntF subs + cntF rest; omega⟩
def sumTo (l : List Nd) (k : Nat) : Nat := ((l.take k).map cnt).sum
theorem sum_next {l : List Nd} {k : Nat} (hk : k < l.length) : sumTo l (k + 1) = sumTo l k + cnt l[k] := by
  unfold sumTo
  rw [List.take_succ_eq_append_getElem hk, List.map_append, List.sum_append]
  simp
theorem sum_all : ∀ F : Fo, ((nodes F).map cnt).sum = cntF F
  | .nil => rfl
  | .cons k t a va vs ats subs rest => by
    have := sum_all rest
    show cnt _ + ((nodes rest).map cnt).sum = _
    rw [this]
    rfl
theorem sum_le (l : List Nd) (k : Nat) : sumTo l k ≤ (l.map cnt).sum := by
  have h : (l.map cnt).sum = ((l.take k).map cnt).sum + ((l.drop k).map cnt).sum := by
    rw [← List.sum_append, ← List.map_append, List.take_append_drop]
  unfold sumTo; omega
theorem ncells_len (l : List Nd) : (l.flatMap Nd.cells).length = l.length * 5 := by
  induction l with
  | nil => rfl
  | cons x l ih => rw [List.flatMap_cons, List.length_append, List.length_cons, ih]; show 5 + _ = _; omega
theorem ncells_at : ∀ (l : List Nd) (k j : Nat) (hk : k < l.length), j < 5 → (l.flatMap Nd.cells)[k * 5 + j]? = l[k].cells[j]?
  | x :: l, 0, j, _, hj => by
    rw [List.flatMap_cons, List.getElem?_append_left (by show 0 * 5 + j < 5; omega), Nat.zero_mul, Nat.zero_add]; rfl
  | x :: l, k + 1, j, hk, hj => by
    rw [List.flatMap_cons, List.getElem?_append_right (by show 5 ≤ (k + 1) * 5 + j; omega)]
    have := ncells_at l k j (by simpa using hk) hj
    rw [show (k + 1) * 5 + j - x.cells.length = k * 5 + j from by show (k + 1) * 5 + j - 5 = _; omega, this]
    simp
/-- the handle at a place of a list -/
theorem nd_at {w : World} {a : Option Addr} {n c : Nat} {l : List Nd} (h : Sl w (.slice a n c) l.length 5 (l.flatMap Nd.cells)) {k : Nat} (hk : k < l.length) :
    ∃ b off, a = some ⟨b, off, none⟩ ∧ w.cell? ⟨b, off + k * 5, none⟩ = some (.int .i64 l[k].k) ∧ w.cell? ⟨b, off + k * 5 + 1, none⟩ = some (.string l[k].t) ∧ w.cell? ⟨b, off + k * 5 + 2, none⟩ = some (.int .i64 l[k].a) ∧
      w.cell? ⟨b, off + k * 5 + 3, none⟩ = some l[k].va ∧ w.cell? ⟨b, off + k * 5 + 4, none⟩ = some l[k].vs := by
  obtain ⟨_, a', c', he, _, h⟩ := h
  simp only [Value.slice.injEq] at he
  obtain ⟨rfl, _, _⟩ := he
  rcases h with h | ⟨b, off, rfl, h⟩
  · have := ncells_len l
    rw [h] at this
    simp at this; omega
  · have key : ∀ j, j < 5 → ∀ u, l[k].cells[j]? = some u → w.cell? ⟨b, off + k * 5 + j, none⟩ = some u := fun j hj u hu => by
      rw [Nat.add_assoc]
      exact h _ u (by rw [ncells_at l k j hk hj]; exact hu)
    exact ⟨b, off, rfl, key 0 (by decide) _ rfl, key 1 (by decide) _ rfl, key 2 (by decide) _ rfl, key 3 (by decide) _ rfl, key 4 (by decide) _ rfl⟩

set_option maxRecDepth 100000 in
set_option maxHeartbeats 4000000 in
theorem count_any : ∀ (N : Nat) (x : Nd) (most : Int) (w : World), cnt x ≤ N → NAt w x → cnt x ≤ 1000000000000 → 0 ≤ most → most ≤ 1000000 →
    Calls Tryd.prog 15 #[.agg #[.int .i64 x.k, .string x.t, .int .i64 x.a, x.va, x.vs], .int .i64 most] w fun e w' => ∃ r : Int, e = .returned (.int .i64 r) ∧ (1 ≤ r ∧ r ≤ (cnt x : Int) ∧ (r ≤ most → r = (cnt x : Int))) ∧ Below w.heap.size w w' := by
  intro N
  induction N with
  | zero => intro x most w h; unfold cnt at h; omega
  | succ N ih =>
    intro x most w hN hx hB hm0 hm1
    have IH := hid ih
    clear ih
    obtain ⟨k, t, a, va, vs, ats, subs⟩ := x
    obtain ⟨av, cv, hva⟩ := hx.1.1.val
    obtain ⟨sa, cs, hvs⟩ := hx.1.2.val
    simp only at hva hvs
    subst hva hvs
    have HX := hid hx
    have HN : Hid (cntF subs ≤ N) := hid (by unfold cnt at hN; simp only at hN; omega)
    have HB : Hid (cntF subs ≤ 1000000000000) := hid (by unfold cnt at hB; simp only at hB; omega)
    have HSA := hid (sum_all subs)
    obtain ⟨l, hl⟩ : ∃ l, nodes subs = l := ⟨_, rfl⟩
    have HSL : Hid (Sl w (.slice sa l.length cs) l.length 5 (l.flatMap Nd.cells)) := hid (by have := hx.1.2; simp only at this; rwa [hl] at this)
    have HND : Hid (∀ y ∈ l, NAt w y ∧ cnt y ≤ cntF subs) := hid (fun y hy => node_at hx.2 (by rw [hl]; exact hy))
    rw [hl] at HSA
    have hlen : l.length ≤ 1000000000000 := by
      have h1 : ∀ q : List Nd, q.length ≤ (q.map cnt).sum := by
        intro q
        induction q with
        | nil => simp
        | cons y q ih =>
          simp only [List.length_cons, List.map_cons, List.sum_cons]
          have : 1 ≤ cnt y := by unfold cnt; omega
          omega
      have := h1 l
      rw [HSA.out] at this
      exact Nat.le_trans this HB.out
    simp only [hl]
    obtain ⟨X1, hX1⟩ : ∃ X1, w.alloc (.cells #[.int .i64 k, .string t, .int .i64 a, .slice av ats.length cv, .slice sa l.length cs] 25) = X1 := ⟨_, rfl⟩
    have HB1 : Hid (Below w.heap.size w X1) := hid (hX1 ▸ ext_alloc _ _)
    have x4 : X1.cell? ⟨w.heap.size, 4, none⟩ = some (.slice sa l.length cs) := by rw [← hX1, World.cell?_alloc_at _ _ _ _ rfl]; rfl
    clear hx hN hB hl
    go_enter Tryd.func15, Tryd.ntmps15
    go_wp2_with fail
    go_loopw [5, 11] (fun v i wr => ∃ (j : Nat) (r : Int), j ≤ l.length ∧ i = .int .i64 j ∧ v = .int .i64 r ∧ Hid (Below w.heap.size w wr) ∧ Hid (1 ≤ r ∧ r ≤ 1 + (sumTo l j : Int) ∧ (r ≤ most → r = 1 + (sumTo l j : Int)))) (fun _ i _ => l.length - (intOf i).toNat)
    case atStart => exact ⟨0, 1, Nat.zero_le _, rfl, rfl, HB1, hid ⟨by omega, by simp [sumTo], fun _ => by simp [sumTo]⟩⟩
    case round =>
      obtain ⟨j, r, hj, rfl, rfl, HR, HS⟩ := hrel
      by_cases hlt : j < l.length
      · obtain ⟨b, off, hab, d0, d1, d2, d3, d4⟩ := nd_at (HSL.out.below HR.out) hlt
        subst hab
        have hi : (0 : Int) ≤ (j : Int) := by omega
        have hjl : (j : Int) < (l.length : Int) := by omega
        obtain ⟨hna, hnc⟩ := HND.out _ (List.getElem_mem hlt)
        have HNA := hid hna; have HNC := hid hnc
        have HSN := hid (sum_next hlt)
        have HSM : Hid (sumTo l (j + 1) ≤ cntF subs) := hid (by rw [← HSA.out]; exact sum_le l _)
        clear hna hnc
        generalize l[j] = y at d0 d1 d2 d3 d4 HNA HNC HSN
        by_cases hr : r ≤ most
        · have HC : Hid (∀ u, Below w.heap.size w u → Calls Tryd.prog 15 #[.agg #[.int .i64 y.k, .string y.t, .int .i64 y.a, y.va, y.vs], .int .i64 (most - r)] u fun e w' => ∃ q : Int, e = .returned (.int .i64 q) ∧ (1 ≤ q ∧ q ≤ (cnt y : Int) ∧ (q ≤ most - r → q = (cnt y : Int))) ∧ Below u.heap.size u w') := hid (fun u hu =>
            IH.out y (most - r) u (Nat.le_trans HNC.out HN.out) (HNA.out.below hu) (Nat.le_trans HNC.out HB.out) (by omega) (by have := HS.out.1; omega))
          obtain ⟨yk, yt, ya, yva, yvs, yats, ysubs⟩ := y
          obtain ⟨a1, c1, e1⟩ := HNA.out.1.1.val
          obtain ⟨a2, c2, e2⟩ := HNA.out.1.2.val
          simp only at e1 e2 d0 d1 d2 d3 d4 HC
          subst e1 e2
          have hr1 : 1 ≤ r := HS.out.1
          have hr2 : most - r ≤ 1000000 := by omega
          have hr3 : 0 ≤ most - r := by omega
          go_wp2_with fail
          refine (HC.out _ (HR.out.alloc HR.out.size _)).mono ?_
          rintro e w5 ⟨q, rfl, hq, hb5⟩
          have HQ := hid hq
          have HB5 := hid ((HR.out.alloc HR.out.size _).trans (hb5.mono (HR.out.alloc HR.out.size _).size))
          have hq1 : r + q ≤ 2000000000000 := by
            have h1 := HS.out.2.1; have h2 := HQ.out.2.1; have h3 := HSN.out; have h4 := HSM.out; have h5 := HB.out
            omega
          have hq2 : 1 ≤ q := HQ.out.1
          clear hq hb5
          go_wp2_with fail
          go_roundw
          case rel => exact ⟨j + 1, r + q, by omega, by go_num, by go_num, HB5, hid ⟨by omega, by
            have h1 := HS.out.2.1; have h2 := HQ.out.2.1; have h3 := HSN.out
            omega, fun h => by
            have h1 := HS.out.2.2 hr; have h2 := HQ.out.2.2 (by omega); have h3 := HSN.out
            omega⟩⟩
          case measure => simp [intOf]; omega
        · obtain ⟨yk, yt, ya, yva, yvs, yats, ysubs⟩ := y
          obtain ⟨a1, c1, e1⟩ := HNA.out.1.1.val
          obtain ⟨a2, c2, e2⟩ := HNA.out.1.2.val
          simp only at e1 e2 d0 d1 d2 d3 d4
          subst e1 e2
          go_wp2_with fail
          go_roundw
          case rel => exact ⟨j + 1, r, by omega, by go_num, rfl, hid (HR.out.alloc HR.out.size _), hid ⟨HS.out.1, by
            have h1 := HS.out.2.1; have h3 := HSN.out
            omega, fun h => absurd h hr⟩⟩
          case measure => simp [intOf]; omega
      · have e : j = l.length := by omega
        have hge : ¬ (j : Int) < (l.length : Int) := by omega
        have HF : Hid (sumTo l j = cntF subs) := hid (by rw [e]; unfold sumTo; rw [List.take_length]; exact HSA.out)
        clear e
        go_wp2_with fail
        go_ret
        refine ⟨r, rfl, ?_, HR.out⟩
        have h1 := HS.out
        rw [HF.out] at h1
        show 1 ≤ r ∧ r ≤ ((1 + cntF subs : Nat) : Int) ∧ (r ≤ most → r = ((1 + cntF subs : Nat) : Int))
        exact ⟨h1.1, by omega, fun h => by have := h1.2.2 h; omega⟩
end Go.Proofs.YtikkhjcocmihlaaDoor.hands
