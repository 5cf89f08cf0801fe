/- Locks: the program's and the reference's side by side. Condition: not many calls came before. -/
import Derived.Test.YtmfhmikihnjkcaaLock18
import Derived.Test.YtmfhmikihnjkcaaLock19
import Derived.Test.YtmfhmikihnjkcaaLock11
namespace Go.Proofs.Ytmfhmikihnjkcaa.locks
open Go.RowKit Go.Proofs.Ytmfhmikihnjkcaa.lib Go.Proofs.Ytmfhmikihnjkcaa.maps Go.Proofs.Ytmfhmikihnjkcaa.errs Go.Proofs.Ytmfhmikihnjkcaa.ints

/-- behind calls of a law that began at w0, the program's locks (p, as A) and the reference's (q, as B) lie beside each other -/
def TW (w0 w : World) (p q : Nat) (A B : St) (c : Nat) : Prop :=
  ∃ m base base2 gw gt vw, PL w base p m A ∧ RL w base2 q gw gt vw B ∧ w0.heap.size ≤ base ∧ w0.heap.size ≤ base2 ∧ Below w0.heap.size w0 w ∧ Inv A c ∧ Inv B c ∧ ∀ k, RF q gw gt vw k → m.own k = none
theorem TW.out {w0 w : World} {p q : Nat} {A B : St} {c : Nat} (h : TW w0 w p q A B c) : Below w0.heap.size w0 w := by obtain ⟨_, _, _, _, _, _, _, _, _, _, h, _⟩ := h; exact h
theorem TW.below {w0 w w' : World} {p q : Nat} {A B : St} {c : Nat} (h : TW w0 w p q A B c) (hb : Below w.heap.size w w') : TW w0 w' p q A B c := by
  obtain ⟨m, base, base2, gw, gt, vw, h1, h2, h3, h4, h5, h6⟩ := h
  exact ⟨m, base, base2, gw, gt, vw, h1.below hb, h2.below hb, h3, h4, h5.trans (hb.mono h5.size), h6⟩
theorem own_base {w : World} {base p : Nat} {m : Gh} {A : St} (h : PL w base p m A) {k : Nat} (hk : m.own k ≠ none) : base ≤ k ∧ k < w.heap.size := by
  cases ho : m.own k with
  | none => exact absurd ho hk
  | some t => exact h.lim k t ho
/-- a call on the program's -/
theorem TW.left {w0 w w' : World} {p q : Nat} {A A' B : St} {c : Nat} {m m' : Gh} {base base2 gw gt : Nat} {vw : Value} (h1 : PL w base p m A) (h2 : RL w base2 q gw gt vw B) (h3 : w0.heap.size ≤ base) (h4 : w0.heap.size ≤ base2) (h5 : Below w0.heap.size w0 w)
    (h7 : Inv B c) (h8 : ∀ k, RF q gw gt vw k → m.own k = none) (hP : PL w' base p m' A') (hK : Keeps (fun g => m.own g ≠ none) w w') (hG : Grows w m m') (hI : Inv A' (c + 1)) : TW w0 w' p q A' B (c + 1) := by
  refine ⟨m', base, base2, gw, gt, vw, hP, h2.keep fun k hk => hK.block k (h2.lt hk).2 (fun hF => hF (h8 k hk)), h3, h4, Keeps.below h5 hK (fun k hk => Nat.le_trans h3 (own_base h1 hk).1), hI, h7.mono (Nat.le_succ _), fun k hk => ?_⟩
  cases ho : m'.own k with
  | none => rfl
  | some t =>
    exfalso
    rcases hG k (by rw [ho]; simp) with h9 | h9
    · exact h9 (h8 k hk)
    · have := (h2.lt hk).2; omega
/-- a call on the reference's -/
theorem TW.right {w0 w w' : World} {p q : Nat} {A B B' : St} {c : Nat} {m : Gh} {base base2 gw gt : Nat} {vw : Value} (h1 : PL w base p m A) (h2 : RL w base2 q gw gt vw B) (h3 : w0.heap.size ≤ base) (h4 : w0.heap.size ≤ base2) (h5 : Below w0.heap.size w0 w)
    (h6 : Inv A c) (h8 : ∀ k, RF q gw gt vw k → m.own k = none) (hR : RBy w base2 q gw gt vw B' w') (hI : Inv B' (c + 1)) : TW w0 w' p q A B' (c + 1) := by
  obtain ⟨vw', hL, hK, hv⟩ := hR
  refine ⟨m, base, base2, gw, gt, vw', h1.keeps hK (fun g hg hF => hg (h8 g hF)), hL, h3, h4, Keeps.below h5 hK (fun k hk => Nat.le_trans h4 (h2.lt hk).1), h6.mono (Nat.le_succ _), hI, fun k hk => ?_⟩
  rcases hk with rfl | rfl | rfl | hk
  · exact h8 _ (.inl rfl)
  · exact h8 _ (.inr (.inl rfl))
  · exact h8 _ (.inr (.inr (.inl rfl)))
  · rcases hv k hk with h9 | h9
    · exact h8 k (.inr (.inr (.inr h9)))
    · exact st_lim h1 (by omega)

theorem lenter_tw {w0 w : World} {p q c : Nat} {A B : St} (h : TW w0 w p q A B c) (hc : c ≤ 1000000) (x k : Int) :
    Calls Try.prog 8 #[.pointer (some ⟨p, 0, none⟩), .int .i64 x, .int .i64 k] w fun e w' => e = .returned (.tuple #[.bool (enterOk A x k), errVal (fault A x k)]) ∧ TW w0 w' p q (enterSt A x k) B (c + 1) := by
  obtain ⟨m, base, base2, gw, gt, vw, h1, h2, h3, h4, h5, h6, h7, h8⟩ := h
  exact (enter_any h1 h6 hc x k).mono fun _ _ ⟨_, he, h9, h10, h11⟩ => ⟨he, TW.left h1 h2 h3 h4 h5 h7 h8 h9 h10 h11 (inv_enter h6 x k)⟩
theorem lleave_tw {w0 w : World} {p q c : Nat} {A B : St} (h : TW w0 w p q A B c) (hc : c ≤ 1000000) (x k : Int) :
    Calls Try.prog 10 #[.pointer (some ⟨p, 0, none⟩), .int .i64 x, .int .i64 k] w fun e w' => e = .returned (errVal (leaveFault A x k)) ∧ TW w0 w' p q (leaveSt A x k) B (c + 1) := by
  obtain ⟨m, base, base2, gw, gt, vw, h1, h2, h3, h4, h5, h6, h7, h8⟩ := h
  exact (leave_any h1 h6 hc x k).mono fun _ _ ⟨_, he, h9, h10, h11⟩ => ⟨he, TW.left h1 h2 h3 h4 h5 h7 h8 h9 h10 h11 (inv_leave h6 x k)⟩
theorem menter_tw {w0 w : World} {p q c : Nat} {A B : St} (h : TW w0 w p q A B c) (hc : c ≤ 1000000) (x k : Int) :
    Calls Try.prog 16 #[.pointer (some ⟨q, 0, none⟩), .int .i64 x, .int .i64 k] w fun e w' => e = .returned (.tuple #[.bool (enterOk B x k), .int .i64 (fault B x k)]) ∧ TW w0 w' p q A (enterSt B x k) (c + 1) := by
  obtain ⟨m, base, base2, gw, gt, vw, h1, h2, h3, h4, h5, h6, h7, h8⟩ := h
  exact (renter_any h2 h7 hc x k).mono fun _ _ ⟨he, h9⟩ => ⟨he, TW.right h1 h2 h3 h4 h5 h6 h8 h9 (inv_enter h7 x k)⟩
theorem mleave_tw {w0 w : World} {p q c : Nat} {A B : St} (h : TW w0 w p q A B c) (hc : c ≤ 1000000) (x k : Int) :
    Calls Try.prog 14 #[.pointer (some ⟨q, 0, none⟩), .int .i64 x, .int .i64 k] w fun e w' => e = .returned (.int .i64 (leaveFault B x k)) ∧ TW w0 w' p q A (leaveSt B x k) (c + 1) := by
  obtain ⟨m, base, base2, gw, gt, vw, h1, h2, h3, h4, h5, h6, h7, h8⟩ := h
  exact (rleave_any h2 h7 hc x k).mono fun _ _ ⟨he, h9⟩ => ⟨he, TW.right h1 h2 h3 h4 h5 h6 h8 h9 (inv_leave h7 x k)⟩
theorem lwaiting_tw {w0 w : World} {p q c : Nat} {A B : St} (h : TW w0 w p q A B c) (hc : c ≤ 1000000) (k : Int) :
    Calls Try.prog 9 #[.pointer (some ⟨p, 0, none⟩), .int .i64 k] w fun e w' => ∃ v, e = .returned v ∧ Sl w' v (waiting A k).length 1 (iv (waiting A k)) ∧ Below w.heap.size w w' := by
  obtain ⟨m, base, base2, gw, gt, vw, h1, h2, h3, h4, h5, h6, h7, h8⟩ := h
  exact (waiting_any h1 h6 hc k).mono fun _ _ ⟨v, he, ho⟩ => ⟨v, he, ho.sl, ho.below⟩
theorem mwaiting_tw {w0 w : World} {p q c : Nat} {A B : St} (h : TW w0 w p q A B c) (hc : c ≤ 1000000) (k : Int) :
    Calls Try.prog 17 #[.pointer (some ⟨q, 0, none⟩), .int .i64 k] w fun e w' => ∃ v, e = .returned v ∧ Sl w' v (waiting B k).length 1 (iv (waiting B k)) ∧ Below w.heap.size w w' := by
  obtain ⟨m, base, base2, gw, gt, vw, h1, h2, h3, h4, h5, h6, h7, h8⟩ := h
  exact (rwaiting_any h2 h7 hc k).mono fun _ _ ⟨v, he, ho⟩ => ⟨v, he, ho.sl, ho.below⟩
theorem lring_tw {w0 w : World} {p q c : Nat} {A B : St} (h : TW w0 w p q A B c) :
    Calls Try.prog 11 #[.pointer (some ⟨p, 0, none⟩)] w fun e w' => ∃ v, e = .returned v ∧ Sl w' v (ring A).length 1 (iv (ring A)) ∧ Below w.heap.size w w' := by
  obtain ⟨m, base, base2, gw, gt, vw, h1, h2, h3, h4, h5, h6, h7, h8⟩ := h
  exact (ring_any h1 h6).mono fun _ _ ⟨v, he, ho⟩ => ⟨v, he, ho.sl, ho.below⟩
theorem mring_tw {w0 w : World} {p q c : Nat} {A B : St} (h : TW w0 w p q A B c) (hc : c ≤ 1000000) :
    Calls Try.prog 18 #[.pointer (some ⟨q, 0, none⟩)] w fun e w' => ∃ v, e = .returned v ∧ Sl w' v (ring B).length 1 (iv (ring B)) ∧ Below w.heap.size w w' := by
  obtain ⟨m, base, base2, gw, gt, vw, h1, h2, h3, h4, h5, h6, h7, h8⟩ := h
  exact (rring_any h2 h7 hc).mono fun _ _ ⟨v, he, ho⟩ => ⟨v, he, ho.sl, ho.below⟩
/-- the two are made -/
theorem TW.start {w0 w w' : World} {p q gw gt : Nat} (h : US w0 w p St.new 0) (hb : Below w.heap.size w w') (hR : RL w' w.heap.size q gw gt (.slice none 0 0) St.new) : TW w0 w' p q St.new St.new 0 := by
  obtain ⟨m, base, h1, h2, h3, _⟩ := h
  refine ⟨m, base, w.heap.size, gw, gt, _, h1.below hb, hR, h2, h3.size, h3.trans (hb.mono h3.size), inv_new, inv_new, fun k hk => st_lim h1 ?_⟩
  have := (hR.lt hk).1; omega
theorem waiting_short {w0 w : World} {p q c : Nat} {A B : St} (h : TW w0 w p q A B c) (k : Int) : (waiting A k).length ≤ c := by
  obtain ⟨m, base, base2, gw, gt, vw, h1, h2, h3, h4, h5, h6, h7, h8⟩ := h
  exact waiting_len h6 k
theorem ring_short (A : St) : (ring A).length ≤ 52 := by
  unfold ring
  cases h : ringTo A 50 with
  | none => simp
  | some l =>
    simp only [Option.getD_some]
    unfold ringTo at h
    obtain ⟨i, _, hi⟩ := List.exists_of_findSome?_eq_some h
    unfold ringFrom at hi
    obtain ⟨n, hn, rfl⟩ := Option.map_eq_some_iff.1 hi
    have hr : n < 51 := by
      unfold turns at hn
      have := List.mem_of_find?_eq_some hn
      simpa using this
    have : (wayTo A (i : Int) (n + 1)).length ≤ n + 1 := by
      unfold wayTo
      have := List.length_filterMap_le (it A (i : Int)) (List.range (n + 1))
      rwa [List.length_range] at this
    omega
end Go.Proofs.Ytmfhmikihnjkcaa.locks
