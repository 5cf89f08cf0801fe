/- Locks: the calls, as a law makes them, with the law's own world. Condition: not many calls came before. -/
import Derived.Test.YtmfhmikihnjkcaaDoorLock10
namespace Go.Proofs.YtmfhmikihnjkcaaDoor.locks
open Go.RowKit Go.Proofs.YtmfhmikihnjkcaaDoor.lib Go.Proofs.YtmfhmikihnjkcaaDoor.maps Go.Proofs.YtmfhmikihnjkcaaDoor.errs

/-- behind calls of a law that began at w0, these locks lie at p -/
def US (w0 w : World) (p : Nat) (A : St) (c : Nat) : Prop := ∃ m base, PL w base p m A ∧ w0.heap.size ≤ base ∧ Below w0.heap.size w0 w ∧ Inv A c
theorem US.inv {w0 w : World} {p : Nat} {A : St} {c : Nat} (h : US w0 w p A c) : Inv A c := by obtain ⟨_, _, _, _, _, h⟩ := h; exact h
theorem US.out {w0 w : World} {p : Nat} {A : St} {c : Nat} (h : US w0 w p A c) : Below w0.heap.size w0 w := by obtain ⟨_, _, _, _, h, _⟩ := h; exact h
theorem US.below {w0 w w' : World} {p : Nat} {A : St} {c : Nat} (h : US w0 w p A c) (hb : Below w.heap.size w w') : US w0 w' p A c := by
  obtain ⟨m, base, h1, h2, h3, h4⟩ := h
  exact ⟨m, base, h1.below hb, h2, h3.trans (hb.mono h3.size), h4⟩
theorem US.keeps {w0 w w' : World} {p : Nat} {A A' : St} {c' : Nat} {m m' : Gh} {base : Nat} (hP : PL w base p m A) (h2 : w0.heap.size ≤ base) (h3 : Below w0.heap.size w0 w) (hP' : PL w' base p m' A') (hK : Keeps (fun g => m.own g ≠ none) w w') (hI : Inv A' c') : US w0 w' p A' c' :=
  ⟨m', base, hP', h2, Keeps.below (F := fun g => m.own g ≠ none) h3 hK fun k hk => by
    cases ho : m.own k with
    | none => exact absurd ho hk
    | some t => have := (hP.lim k t ho).1; omega, hI⟩

theorem new_us (w0 w : World) (hb : Below w0.heap.size w0 w) : Calls Tryd.prog 5 #[] w fun e w' => ∃ p, e = .returned (.pointer (some ⟨p, 0, none⟩)) ∧ US w0 w' p St.new 0 :=
  (new_any w).mono fun _ _ ⟨p, m, he, h1, h2⟩ => ⟨p, he, m, _, h1, hb.size, hb.trans (h2.mono hb.size), inv_new⟩
theorem enter_us {w0 w : World} {p c : Nat} {A : St} (h : US w0 w p A c) (hc : c ≤ 1000000) (x k : Int) :
    Calls Tryd.prog 6 #[.pointer (some ⟨p, 0, none⟩), .int .i64 x, .int .i64 k] w fun e w' => e = .returned (.tuple #[.bool (enterOk A x k), errVal (fault A x k)]) ∧ US w0 w' p (enterSt A x k) (c + 1) := by
  obtain ⟨m, base, h1, h2, h3, h4⟩ := h
  exact (enter_any h1 h4 hc x k).mono fun _ _ ⟨_, he, h5, h6, _⟩ => ⟨he, US.keeps h1 h2 h3 h5 h6 (inv_enter h4 x k)⟩
theorem waiting_us {w0 w : World} {p c : Nat} {A : St} (h : US w0 w p A c) (hc : c ≤ 1000000) (k : Int) :
    Calls Tryd.prog 7 #[.pointer (some ⟨p, 0, none⟩), .int .i64 k] w fun e w' => ∃ a n d, e = .returned (.slice a n d) ∧ n = (waiting A k).length ∧ Sl w' (.slice a n d) n 1 (iv (waiting A k)) ∧ US w0 w' p A c := by
  have h' := h
  obtain ⟨m, base, h1, h2, h3, h4⟩ := h
  refine (waiting_any h1 h4 hc k).mono fun _ _ ⟨v, he, ho⟩ => ?_
  obtain ⟨a, d, rfl⟩ := ho.sl.val
  exact ⟨a, _, d, he, rfl, ho.sl, h'.below ho.below⟩
theorem ring_us {w0 w : World} {p c : Nat} {A : St} (h : US w0 w p A c) :
    Calls Tryd.prog 8 #[.pointer (some ⟨p, 0, none⟩)] w fun e w' => ∃ a n d, e = .returned (.slice a n d) ∧ n = (ring A).length ∧ Sl w' (.slice a n d) n 1 (iv (ring A)) ∧ US w0 w' p A c := by
  have h' := h
  obtain ⟨m, base, h1, h2, h3, h4⟩ := h
  refine (ring_any h1 h4).mono fun _ _ ⟨v, he, ho⟩ => ?_
  obtain ⟨a, d, rfl⟩ := ho.sl.val
  exact ⟨a, _, d, he, rfl, ho.sl, h'.below ho.below⟩
end Go.Proofs.YtmfhmikihnjkcaaDoor.locks
