/- Locks: the calls, as a law makes them, with the law's own world; locked. Condition: not many calls came before. -/
import Derived.Test.YtmfhmikihnjkcaaLock10
import Derived.Test.YtmfhmikihnjkcaaInts
namespace Go.Proofs.Ytmfhmikihnjkcaa.locks
open Go.RowKit Go.Proofs.Ytmfhmikihnjkcaa.lib Go.Proofs.Ytmfhmikihnjkcaa.maps Go.Proofs.Ytmfhmikihnjkcaa.errs Go.Proofs.Ytmfhmikihnjkcaa.ints

/-- behind calls of a law that began at w0, these locks lie at p -/
def US (w0 w : World) (p : Nat) (A : St) (c : Nat) : Prop := ∃ m base, PL w base p m A ∧ w0.heap.size ≤ base ∧ Below w0.heap.size w0 w ∧ Inv A c
theorem US.inv {w0 w : World} {p : Nat} {A : St} {c : Nat} (h : US w0 w p A c) : Inv A c := by obtain ⟨_, _, _, _, _, h⟩ := h; exact h
theorem US.out {w0 w : World} {p : Nat} {A : St} {c : Nat} (h : US w0 w p A c) : Below w0.heap.size w0 w := by obtain ⟨_, _, _, _, h, _⟩ := h; exact h
theorem US.below {w0 w w' : World} {p : Nat} {A : St} {c : Nat} (h : US w0 w p A c) (hb : Below w.heap.size w w') : US w0 w' p A c := by
  obtain ⟨m, base, h1, h2, h3, h4⟩ := h
  exact ⟨m, base, h1.below hb, h2, h3.trans (hb.mono h3.size), h4⟩
theorem US.keeps {w0 w w' : World} {p : Nat} {A A' : St} {c' : Nat} {m m' : Gh} {base : Nat} (hP : PL w base p m A) (h2 : w0.heap.size ≤ base) (h3 : Below w0.heap.size w0 w) (hP' : PL w' base p m' A') (hK : Keeps (fun g => m.own g ≠ none) w w') (hI : Inv A' c') : US w0 w' p A' c' :=
  ⟨m', base, hP', h2, Keeps.below (F := fun g => m.own g ≠ none) h3 hK fun k hk => by
    cases ho : m.own k with
    | none => exact absurd ho hk
    | some t => have := (hP.lim k t ho).1; omega, hI⟩

theorem new_us (w0 w : World) (hb : Below w0.heap.size w0 w) : Calls Try.prog 7 #[] w fun e w' => ∃ p, e = .returned (.pointer (some ⟨p, 0, none⟩)) ∧ US w0 w' p St.new 0 :=
  (new_any w).mono fun _ _ ⟨p, m, he, h1, h2⟩ => ⟨p, he, m, _, h1, hb.size, hb.trans (h2.mono hb.size), inv_new⟩
theorem enter_us {w0 w : World} {p c : Nat} {A : St} (h : US w0 w p A c) (hc : c ≤ 1000000) (x k : Int) :
    Calls Try.prog 8 #[.pointer (some ⟨p, 0, none⟩), .int .i64 x, .int .i64 k] w fun e w' => e = .returned (.tuple #[.bool (enterOk A x k), errVal (fault A x k)]) ∧ US w0 w' p (enterSt A x k) (c + 1) := by
  obtain ⟨m, base, h1, h2, h3, h4⟩ := h
  exact (enter_any h1 h4 hc x k).mono fun _ _ ⟨_, he, h5, h6, _⟩ => ⟨he, US.keeps h1 h2 h3 h5 h6 (inv_enter h4 x k)⟩
theorem leave_us {w0 w : World} {p c : Nat} {A : St} (h : US w0 w p A c) (hc : c ≤ 1000000) (x k : Int) :
    Calls Try.prog 10 #[.pointer (some ⟨p, 0, none⟩), .int .i64 x, .int .i64 k] w fun e w' => e = .returned (errVal (leaveFault A x k)) ∧ US w0 w' p (leaveSt A x k) (c + 1) := by
  obtain ⟨m, base, h1, h2, h3, h4⟩ := h
  exact (leave_any h1 h4 hc x k).mono fun _ _ ⟨_, he, h5, h6, _⟩ => ⟨he, US.keeps h1 h2 h3 h5 h6 (inv_leave h4 x k)⟩
theorem waiting_us {w0 w : World} {p c : Nat} {A : St} (h : US w0 w p A c) (hc : c ≤ 1000000) (k : Int) :
    Calls Try.prog 9 #[.pointer (some ⟨p, 0, none⟩), .int .i64 k] w fun e w' => ∃ a n d, e = .returned (.slice a n d) ∧ n = (waiting A k).length ∧ Sl w' (.slice a n d) n 1 (iv (waiting A k)) ∧ US w0 w' p A c := by
  have h' := h
  obtain ⟨m, base, h1, h2, h3, h4⟩ := h
  refine (waiting_any h1 h4 hc k).mono fun _ _ ⟨v, he, ho⟩ => ?_
  obtain ⟨a, d, rfl⟩ := ho.sl.val
  exact ⟨a, _, d, he, rfl, ho.sl, h'.below ho.below⟩
theorem ring_us {w0 w : World} {p c : Nat} {A : St} (h : US w0 w p A c) :
    Calls Try.prog 11 #[.pointer (some ⟨p, 0, none⟩)] w fun e w' => ∃ a n d, e = .returned (.slice a n d) ∧ n = (ring A).length ∧ Sl w' (.slice a n d) n 1 (iv (ring A)) ∧ US w0 w' p A c := by
  have h' := h
  obtain ⟨m, base, h1, h2, h3, h4⟩ := h
  refine (ring_any h1 h4).mono fun _ _ ⟨v, he, ho⟩ => ?_
  obtain ⟨a, d, rfl⟩ := ho.sl.val
  exact ⟨a, _, d, he, rfl, ho.sl, h'.below ho.below⟩

set_option maxRecDepth 100000 in
set_option maxHeartbeats 2000000 in
theorem locked_any (w : World) : Calls Try.prog 6 #[] w fun e w' => e = .returned (.bool true) ∧ Below w.heap.size w w' := by
  go_enter Try.func6, Try.ntmps6
  go_wp2_with fail
  refine (new_us w _ (Below.refl _ _)).mono ?_
  rintro e w1 ⟨p, rfl, h1⟩
  have H1 := hid h1
  clear h1
  go_wp2_with fail
  refine (enter_us H1.out (by omega) 1 9).mono ?_
  rintro e w2 ⟨rfl, h2⟩
  rw [show enterOk St.new 1 9 = true from by decide, show fault St.new 1 9 = 0 from by decide, errVal_zero rfl]
  have H2 := hid h2
  clear h2
  go_wp2_with fail
  refine (enter_us H2.out (by omega) 2 9).mono ?_
  rintro e w3 ⟨rfl, h3⟩
  rw [show enterOk (enterSt St.new 1 9) 2 9 = false from by decide, show fault (enterSt St.new 1 9) 2 9 = 0 from by decide, errVal_zero rfl]
  have H3 := hid h3
  clear h3
  go_wp2_with fail
  refine (waiting_us H3.out (by omega) 9).mono ?_
  rintro e w4 ⟨a, n, d, rfl, hn, h4, h5⟩
  rw [show waiting (enterSt (enterSt St.new 1 9) 2 9) 9 = [2] from by decide] at hn h4
  have H4 := hid h4
  have H5 := hid h5
  have HL := hid (Sl.lit w4 #[.int .i64 2] 3 1 1 rfl)
  have HB := hid (ext_alloc w4 (.cells #[.int .i64 2] 3))
  have HN := hid hn
  clear h4 h5 hn
  go_wp2_with fail
  refine (ints_any _ _ [2] [2] _ (by have := H4.out.below HB.out; rw [show n = 1 from HN.out] at this ⊢; exact this) HL.out (by decide)).mono ?_
  rintro e w5 ⟨rfl, hb5⟩
  have HF := hid ((H5.out.out.trans (HB.out.mono H5.out.out.size)).trans (hb5.mono (H5.out.out.trans (HB.out.mono H5.out.out.size)).size))
  clear hb5
  go_wp2
  go_ret
  exact ⟨rfl, HF.out⟩
end Go.Proofs.Ytmfhmikihnjkcaa.locks
