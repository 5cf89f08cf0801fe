/- Locks: the law LockRings: its states (plain), calls beside a list of the law's own, and its walk. Condition: the arguments are 64-bit numbers. -/
import Derived.Test.YtmfhmikihnjkcaaLock12
namespace Go.Proofs.Ytmfhmikihnjkcaa.locks
open Go.RowKit Go.Proofs.Ytmfhmikihnjkcaa.lib Go.Proofs.Ytmfhmikihnjkcaa.maps Go.Proofs.Ytmfhmikihnjkcaa.errs Go.Proofs.Ytmfhmikihnjkcaa.ints

/-! plain -/
/-- n things, held by the n from f on; who waits -/
structure Rs (A : St) (f n : Nat) (W : List (Int × Int)) : Prop where
  who : ∀ i : Nat, i < n → A.who (i : Int) = ((f + i : Nat) : Int)
  t1 : ∀ i : Nat, i < n → A.times (i : Int) = 1
  t0 : ∀ i : Nat, n ≤ i → A.times (i : Int) = 0
  wt : A.waits = W
def rsW (f m : Nat) : List (Int × Int) := (List.range m).map fun i : Nat => (((f + i : Nat) : Int), ((i + 1 : Nat) : Int))
theorem rsW_succ (f m : Nat) : rsW f (m + 1) = rsW f m ++ [(((f + m : Nat) : Int), ((m + 1 : Nat) : Int))] := by unfold rsW; rw [List.range_succ, List.map_append]; rfl
theorem mem_rsW {f m : Nat} {q : Int × Int} : q ∈ rsW f m ↔ ∃ i : Nat, i < m ∧ q = (((f + i : Nat) : Int), ((i + 1 : Nat) : Int)) := by
  unfold rsW
  simp only [List.mem_map, List.mem_range]
  exact ⟨fun ⟨i, h, e⟩ => ⟨i, h, e.symm⟩, fun ⟨i, h, e⟩ => ⟨i, h, e.symm⟩⟩
theorem rs_new (f : Nat) : Rs St.new f 0 [] := ⟨fun i h => by omega, fun i h => by omega, fun _ _ => rfl, rfl⟩
theorem rs_take {A : St} {f n : Nat} (h : Rs A f n []) (hn : n < 50) (hf : f + n < 50) : enterOk A ((f + n : Nat) : Int) (n : Int) = true ∧ fault A ((f + n : Nat) : Int) (n : Int) = 0 ∧ Rs (enterSt A ((f + n : Nat) : Int) (n : Int)) f (n + 1) [] := by
  have hf0 : fault A ((f + n : Nat) : Int) (n : Int) = 0 := fault_no (by omega) (waitsFor_none.2 (by rw [h.wt]; intro q hq; cases hq))
  have hh : ¬ held A ((f + n : Nat) : Int) (n : Int) := fun ⟨h1, _⟩ => by rw [h.t0 n (Nat.le_refl _)] at h1; omega
  refine ⟨by unfold enterOk; rw [decide_eq_true_eq]; exact ⟨hf0, hh⟩, hf0, ?_⟩
  rw [enterSt, if_neg (by rw [hf0]; simp), if_neg hh]
  refine ⟨fun i hi => ?_, fun i hi => ?_, fun i hi => ?_, h.wt⟩
  · by_cases e : i = n
    · subst e; exact upd_same _ _ _
    · show upd A.who _ _ _ = _; rw [upd_other _ _ (by omega)]; exact h.who i (by omega)
  · by_cases e : i = n
    · subst e; show upd A.times _ _ _ = _; rw [upd_same, h.t0 i (Nat.le_refl _)]; rfl
    · show upd A.times _ _ _ = _; rw [upd_other _ _ (by omega)]; exact h.t1 i (by omega)
  · show upd A.times _ _ _ = _; rw [upd_other _ _ (by omega)]; exact h.t0 i (by omega)
theorem rs_wait {A : St} {f n m k : Nat} (h : Rs A f n (rsW f m)) (hm : m < n) (hk : k < n) (hkm : k ≠ m) (hf : f + n ≤ 50) :
    enterOk A ((f + m : Nat) : Int) (k : Int) = false ∧ fault A ((f + m : Nat) : Int) (k : Int) = 0 ∧ Rs (enterSt A ((f + m : Nat) : Int) (k : Int)) f n (rsW f m ++ [(((f + m : Nat) : Int), (k : Int))]) := by
  have hf0 : fault A ((f + m : Nat) : Int) (k : Int) = 0 := fault_no (by omega) (waitsFor_none.2 (by
    rw [h.wt]; intro q hq
    obtain ⟨i, hi, rfl⟩ := mem_rsW.1 hq
    simp only; omega))
  have hh : held A ((f + m : Nat) : Int) (k : Int) := ⟨by rw [h.t1 k hk]; decide, by rw [h.who k hk]; omega⟩
  refine ⟨by unfold enterOk; rw [decide_eq_false_iff_not]; exact fun h2 => h2.2 hh, hf0, ?_⟩
  rw [enterSt, if_neg (by rw [hf0]; simp), if_pos hh]
  exact ⟨h.who, h.t1, h.t0, by show A.waits ++ _ = _; rw [h.wt]⟩

theorem rs_nxt {A : St} {c f n m i : Nat} {W : List (Int × Int)} (hI : Inv A c) (h : Rs A f n W) (hW : ∀ q ∈ rsW f m, q ∈ W) (hm : m + 1 ≤ n) (hi : i < m) : nxt A ((f + i : Nat) : Int) = some ((f + (i + 1) : Nat) : Int) := by
  have : waitsFor A ((f + i : Nat) : Int) = some ((i + 1 : Nat) : Int) := waitsFor_of hI (by rw [h.wt]; exact hW _ (mem_rsW.2 ⟨i, hi, rfl⟩))
  unfold nxt
  rw [this, Option.map_some, h.who (i + 1) (by omega)]
theorem rs_it {A : St} {c f n m i : Nat} {W : List (Int × Int)} (hI : Inv A c) (h : Rs A f n W) (hW : ∀ q ∈ rsW f m, q ∈ W) (hm : m + 1 ≤ n) : ∀ j, i + j ≤ m → it A ((f + i : Nat) : Int) j = some ((f + i + j : Nat) : Int)
  | 0, _ => rfl
  | j + 1, hj => by
    rw [it_next (rs_it hI h hW hm j (by omega)), Nat.add_assoc, rs_nxt hI h hW hm (by omega)]
    congr 2
    omega
theorem rs_none {A : St} {f n m : Nat} (h : Rs A f n (rsW f m)) {x : Int} (hx : ∀ i, i < m → x ≠ ((f + i : Nat) : Int)) : nxt A x = none := by
  have : waitsFor A x = none := waitsFor_none.2 (by
    rw [h.wt]; intro q hq
    obtain ⟨i, hi, rfl⟩ := mem_rsW.1 hq
    exact fun e => hx i hi e.symm)
  unfold nxt; rw [this]; rfl
theorem rs_quiet {A : St} {c f n m : Nat} (hI : Inv A c) (h : Rs A f n (rsW f m)) (hm : m + 1 ≤ n) : ring A = [] := by
  have key : ∀ x : Nat, ringFrom A (x : Int) = none := fun x => by
    by_cases hx : f ≤ x ∧ x < f + m
    · obtain ⟨i, rfl⟩ : ∃ i, x = f + i := ⟨x - f, by omega⟩
      refine ring_stops (j := m - i) ?_ fun j h1 h2 => ?_
      · rw [it_next (rs_it hI h (fun _ hq => hq) hm (m - i) (by omega))]
        exact rs_none h fun j hj => by omega
      · rw [rs_it hI h (fun _ hq => hq) hm j (by omega)]
        intro e
        have := Option.some.inj e
        omega
    · refine ring_stops (j := 0) ?_ fun j h1 h2 => by omega
      rw [it_next rfl]
      exact rs_none h fun i hi => by omega
  have : ∀ N, ringTo A N = none := fun N => by
    induction N with
    | zero => rfl
    | succ N ih => exact ringTo_none_step ih (key N)
  exact ring_never (this 50)
/-- the ring's members -/
def rsL (f n : Nat) : List Int := (List.range n).map fun i : Nat => ((f + i : Nat) : Int)
theorem rsL_succ (f n : Nat) : rsL f (n + 1) = rsL f n ++ [((f + n : Nat) : Int)] := by unfold rsL; rw [List.range_succ, List.map_append]; rfl
theorem rs_ring {A : St} {c f n : Nat} (hI : Inv A c) (h : Rs A f (n + 1) (rsW f n ++ [(((f + n : Nat) : Int), ((0 : Nat) : Int))])) (hf : f + n < 50) : ring A = rsL f (n + 1) := by
  have hW : ∀ q ∈ rsW f n, q ∈ rsW f n ++ [(((f + n : Nat) : Int), ((0 : Nat) : Int))] := fun q hq => List.mem_append_left _ hq
  have hlast : nxt A ((f + n : Nat) : Int) = some (f : Int) := by
    have : waitsFor A ((f + n : Nat) : Int) = some ((0 : Nat) : Int) := waitsFor_of hI (by rw [h.wt]; exact List.mem_append_right _ (List.mem_singleton.2 rfl))
    unfold nxt
    rw [this, Option.map_some, h.who 0 (by omega)]; rfl
  have hit : ∀ j, j ≤ n → it A (f : Int) j = some ((f + j : Nat) : Int) := fun j hj => rs_it (i := 0) hI h hW (by omega) j (by omega)
  have hr : ringFrom A (f : Int) = some (wayTo A (f : Int) (n + 1)) := turns_some (j := n) (by omega) (by rw [it_next (hit n (Nat.le_refl _)), hlast]) fun i h1 h2 => by
    rw [hit i h2]; intro e; have := Option.some.inj e; omega
  have hway : ∀ k, k ≤ n + 1 → wayTo A (f : Int) k = rsL f k := fun k => by
    induction k with
    | zero => intro _; rfl
    | succ k ih => intro hk; rw [wayTo_succ (hit k (by omega)), rsL_succ, ih (by omega)]
  rw [hway _ (Nat.le_refl _)] at hr
  have hno : ∀ N, N ≤ f → ringTo A N = none := fun N => by
    induction N with
    | zero => intro _; rfl
    | succ N ih =>
      intro hN
      refine ringTo_none_step (ih (by omega)) (ring_stops (j := 0) ?_ fun j h1 h2 => by omega)
      rw [it_next rfl]
      have : waitsFor A (N : Int) = none := waitsFor_none.2 (by
        rw [h.wt]; intro q hq
        rcases List.mem_append.1 hq with h1 | h1
        · obtain ⟨i, hi, rfl⟩ := mem_rsW.1 h1
          simp only; omega
        · rw [List.mem_singleton.1 h1]; simp only; omega)
      unfold nxt; rw [this]; rfl
  exact ring_found (by omega) (hno f (Nat.le_refl _)) hr

/-! calls beside a list of the law's own -/
theorem Out.keepsF {F : Nat → Prop} {w0 w w' : World} {e : TypeId} {size : Nat} {v : Value} {n : Nat} {xs : List Value} (h : Out w0 w e size v n xs) (hk : Keeps F w w') (hF : ∀ k, F k → w0.heap.size ≤ k) (hv : ∀ g, v.ownBlock = some g → ¬ F g) : Out w0 w' e size v n xs := by
  refine ⟨⟨h.own.1, ?_⟩, Keeps.below h.below hk hF⟩
  rcases h.own.2 with h1 | ⟨g, cap, cur, rfl, h2, h3, h4⟩
  · exact .inl h1
  · exact .inr ⟨g, cap, cur, rfl, h2, by rw [hk.block g (Array.getElem?_eq_some_iff.1 h3).1 (hv g rfl)]; exact h3, h4⟩

/-- .. and the law's list lies beside the locks -/
def UW (w0 w : World) (p : Nat) (A : St) (c : Nat) (v : Value) (xs : List Int) : Prop :=
  ∃ m base, PL w base p m A ∧ w0.heap.size ≤ base ∧ Inv A c ∧ Out w0 w 3 1 v xs.length (iv xs) ∧ ∀ g, v.ownBlock = some g → m.own g = none
theorem UW.us {w0 w : World} {p : Nat} {A : St} {c : Nat} {v : Value} {xs : List Int} (h : UW w0 w p A c v xs) : US w0 w p A c := by
  obtain ⟨m, base, h1, h2, h3, h4, _⟩ := h
  exact ⟨m, base, h1, h2, h4.below, h3⟩
theorem UW.start {w0 w : World} {p : Nat} {A : St} {c : Nat} (h : US w0 w p A c) : UW w0 w p A c (.slice none 0 0) [] := by
  obtain ⟨m, base, h1, h2, h3, h4⟩ := h
  exact ⟨m, base, h1, h2, h4, ⟨World.ownsRow_nil _ _ _ _, h3⟩, fun g hg => by cases hg⟩
theorem UW.below {w0 w w' : World} {p : Nat} {A : St} {c : Nat} {v : Value} {xs : List Int} (h : UW w0 w p A c v xs) (hb : Below w.heap.size w w') : UW w0 w' p A c v xs := by
  obtain ⟨m, base, h1, h2, h3, h4, h5⟩ := h
  exact ⟨m, base, h1.below hb, h2, h3, h4.later hb, h5⟩
theorem enter_uw {w0 w : World} {p c : Nat} {A : St} {v : Value} {xs : List Int} (h : UW w0 w p A c v xs) (hc : c ≤ 1000000) (x k : Int) :
    Calls Try.prog 8 #[.pointer (some ⟨p, 0, none⟩), .int .i64 x, .int .i64 k] w fun e w' => e = .returned (.tuple #[.bool (enterOk A x k), errVal (fault A x k)]) ∧ UW w0 w' p (enterSt A x k) (c + 1) v xs := by
  obtain ⟨m, base, h1, h2, h3, h4, h5⟩ := h
  refine (enter_any h1 h3 hc x k).mono fun e w' ⟨m', he, h6, h7, h8⟩ => ⟨he, m', base, h6, h2, inv_enter h3 x k, Out.keepsF h4 h7 (fun g hg => ?_) (fun g hg hF => hF (h5 g hg)), fun g hg => ?_⟩
  · cases ho : m.own g with
    | none => exact absurd ho hg
    | some t => have := (h1.lim g t ho).1; omega
  · cases ho : m'.own g with
    | none => rfl
    | some t =>
      exfalso
      rcases h8 g (by rw [ho]; simp) with h9 | h9
      · exact h9 (h5 g hg)
      · have := (h4.own.lt g hg).2; omega
theorem UW.more {w0 w w' : World} {p c : Nat} {A : St} {v v' : Value} {xs : List Int} {y : Int} (h : UW w0 w p A c v xs) (ho : Out w0 w' 3 1 v' (xs.length + 1) (iv xs ++ [.int .i64 y])) (hg : w.grownBy w' v.ownBlock) (hat : v'.ownBlock = v.ownBlock ∨ ∃ k, v'.ownBlock = some k ∧ w.heap.size ≤ k) : UW w0 w' p A c v' (xs ++ [y]) := by
  obtain ⟨m, base, h1, h2, h3, h4, h5⟩ := h
  refine ⟨m, base, h1.keeps (Keeps.grown hg) (fun g hm hF => hm (h5 g hF.symm)), h2, h3, by unfold iv at ho ⊢; rw [List.map_append, List.length_append]; exact ho, fun g hg' => ?_⟩
  rcases hat with hat | ⟨k, hat, hk⟩
  · exact h5 g (by rw [← hat]; exact hg')
  · rw [hat] at hg'
    obtain rfl := Option.some.inj hg'
    exact st_lim h1 (by omega)
theorem ring_uw {w0 w : World} {p c : Nat} {A : St} {v : Value} {xs : List Int} (h : UW w0 w p A c v xs) :
    Calls Try.prog 11 #[.pointer (some ⟨p, 0, none⟩)] w fun e w' => ∃ a n d, e = .returned (.slice a n d) ∧ n = (ring A).length ∧ Sl w' (.slice a n d) n 1 (iv (ring A)) ∧ UW w0 w' p A c v xs := by
  have h' := h
  obtain ⟨m, base, h1, h2, h3, h4, h5⟩ := h
  refine (ring_any h1 h3).mono fun e w' ⟨v, he, ho⟩ => ?_
  obtain ⟨a, d, rfl⟩ := ho.sl.val
  exact ⟨a, _, d, he, rfl, ho.sl, h'.below ho.below⟩
end Go.Proofs.Ytmfhmikihnjkcaa.locks
