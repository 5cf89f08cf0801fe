/- Locks: two of the program's side by side. Condition: not many calls came before. -/
import Derived.Test.YtmfhmikihnjkcaaDoorLock11
namespace Go.Proofs.YtmfhmikihnjkcaaDoor.locks
open Go.RowKit Go.Proofs.YtmfhmikihnjkcaaDoor.lib Go.Proofs.YtmfhmikihnjkcaaDoor.maps Go.Proofs.YtmfhmikihnjkcaaDoor.errs

/-- behind calls of a law that began at w0, the locks at p (as A) and those at q (as B) lie beside each other -/
def PW (w0 w : World) (p q : Nat) (A B : St) (c : Nat) : Prop :=
  ∃ m n base base2, PL w base p m A ∧ PL w base2 q n B ∧ w0.heap.size ≤ base ∧ w0.heap.size ≤ base2 ∧ Below w0.heap.size w0 w ∧ Inv A c ∧ Inv B c ∧ ∀ k, n.own k ≠ none → m.own k = none
theorem PW.swap {w0 w : World} {p q : Nat} {A B : St} {c : Nat} (h : PW w0 w p q A B c) : PW w0 w q p B A c := by
  obtain ⟨m, n, base, base2, h1, h2, h3, h4, h5, h6, h7, h8⟩ := h
  refine ⟨n, m, base2, base, h2, h1, h4, h3, h5, h7, h6, fun k hk => ?_⟩
  cases ho : n.own k with
  | none => rfl
  | some t => exact absurd (h8 k (by rw [ho]; simp)) hk
theorem PW.out {w0 w : World} {p q : Nat} {A B : St} {c : Nat} (h : PW w0 w p q A B c) : Below w0.heap.size w0 w := by obtain ⟨_, _, _, _, _, _, _, _, h, _⟩ := h; exact h
theorem PW.below {w0 w w' : World} {p q : Nat} {A B : St} {c : Nat} (h : PW w0 w p q A B c) (hb : Below w.heap.size w w') : PW w0 w' p q A B c := by
  obtain ⟨m, n, base, base2, h1, h2, h3, h4, h5, h6⟩ := h
  exact ⟨m, n, base, base2, h1.below hb, h2.below hb, h3, h4, h5.trans (hb.mono h5.size), h6⟩
theorem PW.inv {w0 w : World} {p q : Nat} {A B : St} {c : Nat} (h : PW w0 w p q A B c) : Inv A c := by obtain ⟨_, _, _, _, _, _, _, _, _, h, _⟩ := h; exact h
theorem enter_pw {w0 w : World} {p q c : Nat} {A B : St} (h : PW w0 w p q A B c) (hc : c ≤ 1000000) (x k : Int) :
    Calls Tryd.prog 6 #[.pointer (some ⟨p, 0, none⟩), .int .i64 x, .int .i64 k] w fun e w' => e = .returned (.tuple #[.bool (enterOk A x k), errVal (fault A x k)]) ∧ PW w0 w' p q (enterSt A x k) B (c + 1) := by
  obtain ⟨m, n, base, base2, h1, h2, h3, h4, h5, h6, h7, h8⟩ := h
  refine (enter_any h1 h6 hc x k).mono fun _ _ ⟨m', he, h9, h10, h11⟩ => ⟨he, m', n, base, base2, h9, h2.keeps h10 (fun g hg hF => hF (h8 g hg)), h3, h4, Keeps.below h5 h10 (fun k hk => ?_), inv_enter h6 x k, h7.mono (Nat.le_succ _), fun k hk => ?_⟩
  · cases ho : m.own k with
    | none => exact absurd ho hk
    | some t => have := (h1.lim k t ho).1; omega
  · cases ho : m'.own k with
    | none => rfl
    | some t =>
      exfalso
      rcases h11 k (by rw [ho]; simp) with h12 | h12
      · exact h12 (h8 k hk)
      · cases ho2 : n.own k with
        | none => exact hk ho2
        | some t => have := (h2.lim k t ho2).2; omega
theorem waiting_pw {w0 w : World} {p q c : Nat} {A B : St} (h : PW w0 w p q A B c) (hc : c ≤ 1000000) (k : Int) :
    Calls Tryd.prog 7 #[.pointer (some ⟨p, 0, none⟩), .int .i64 k] w fun e w' => ∃ v, e = .returned v ∧ Out w w' 3 1 v (waiting A k).length (iv (waiting A k)) := by
  obtain ⟨m, n, base, base2, h1, h2, h3, h4, h5, h6, h7, h8⟩ := h
  exact (waiting_any h1 h6 hc k).mono fun _ _ ⟨v, he, ho⟩ => ⟨v, he, ho⟩
theorem ring_pw {w0 w : World} {p q c : Nat} {A B : St} (h : PW w0 w p q A B c) :
    Calls Tryd.prog 8 #[.pointer (some ⟨p, 0, none⟩)] w fun e w' => ∃ v, e = .returned v ∧ Out w w' 3 1 v (ring A).length (iv (ring A)) := by
  obtain ⟨m, n, base, base2, h1, h2, h3, h4, h5, h6, h7, h8⟩ := h
  exact (ring_any h1 h6).mono fun _ _ ⟨v, he, ho⟩ => ⟨v, he, ho⟩
theorem new_pw {w0 w : World} {p c : Nat} {A : St} (h : US w0 w p A c) : Calls Tryd.prog 5 #[] w fun e w' => ∃ q, e = .returned (.pointer (some ⟨q, 0, none⟩)) ∧ PW w0 w' p q A St.new c := by
  obtain ⟨m, base, h1, h2, h3, h4⟩ := h
  refine (new_any w).mono fun _ w' ⟨q, n, he, h5, h6⟩ => ⟨q, he, m, n, base, w.heap.size, h1.below h6, h5, h2, h3.size, h3.trans (h6.mono h3.size), h4, inv_new.mono (Nat.zero_le _), fun k hk => ?_⟩
  cases ho : n.own k with
  | none => exact absurd ho hk
  | some t => exact st_lim h1 (by have := (h5.lim k t ho).1; omega)
end Go.Proofs.YtmfhmikihnjkcaaDoor.locks
