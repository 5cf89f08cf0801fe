/- Types as texts: the plain laws of types one behind the other. No condition. -/
import Derived.Test.YtlhobhnbgdicjaaGreatDoorZDesc3
import Derived.Test.YtlhobhnbgdicjaaGreatDoorZDesc6S
import Derived.Test.YtlhobhnbgdicjaaGreatDoorZStrs
namespace Go.Proofs.YtlhobhnbgdicjaaGreatDoor.descs
open Go.RowKit lib errs names
def Core (t : List UInt8) : Prop := t = [73] ∨ t = [74] ∨ ∃ nm, t = 76 :: (nm ++ [59]) ∧ nameOk nm = true
theorem dw {p r : List UInt8} {c : UInt8} (hp : ∀ y ∈ p, y = 91) (hc : c ≠ 91) : (p ++ c :: r).dropWhile (· == (91 : UInt8)) = c :: r := by
 induction p with
 | nil => rw [List.nil_append, List.dropWhile_cons, if_neg (by simpa using hc)]
 | cons x p ih =>
  have hx := hp x (List.mem_cons_self ..)
  rw [List.cons_append, List.dropWhile_cons, if_pos (by simpa using hx)]
  exact ih (fun y hy => hp y (List.mem_cons_of_mem _ hy))
theorem nameOk_no59 {nm : List UInt8} (h : nameOk nm = true) : ∀ y ∈ nm, y ≠ 59 := by
 simp only [nameOk, Bool.and_eq_true] at h
 intro y hy he
 have := List.all_eq_true.1 h.1.2 y hy
 subst he
 revert this; decide
theorem core_tail {p t : List UInt8} (hp : ∀ y ∈ p, y = 91) (h3 : p.length ≤ 3) (ht : Core t) (r : List UInt8) : tyLen (p ++ (t ++ r)) = p.length + t.length := by
 have hlen : ∀ (c : UInt8) (r' : List UInt8), (p ++ c :: r').length - (c :: r').length = p.length := fun c r' => by rw [List.length_append]; omega
 rcases ht with rfl | rfl | ⟨nm, rfl, hn⟩
 ·have h := dw (r := r) hp (show (73 : UInt8) ≠ 91 by decide)
  show tyLen (p ++ 73 :: r) = p.length + 1
  rw [ty_word h (by rw [hlen]; omega) (.inl rfl), hlen]
 ·have h := dw (r := r) hp (show (74 : UInt8) ≠ 91 by decide)
  show tyLen (p ++ 74 :: r) = p.length + 1
  rw [ty_word h (by rw [hlen]; omega) (.inr rfl), hlen]
 ·have h := dw (r := nm ++ [59] ++ r) hp (show (76 : UInt8) ≠ 91 by decide)
  show tyLen (p ++ 76 :: (nm ++ [59] ++ r)) = p.length + (76 :: (nm ++ [59])).length
  have hix : Lib.indexByte (76 :: (nm ++ [59] ++ r)) 59 = ((nm.length + 1 : Nat) : Int) := by
   refine index_first (fun j hj => ?_) ?_
   ·cases j with
    | zero => simp
    | succ j =>
     have hj' : j < nm.length := by omega
     rw [List.getElem?_cons_succ, List.append_assoc, List.getElem?_append_left hj', List.getElem?_eq_getElem hj']
     intro hh
     exact nameOk_no59 hn _ (List.getElem_mem hj') (Option.some.inj hh)
   ·rw [List.getElem?_cons_succ, List.append_assoc, List.getElem?_append_right (Nat.le_refl _), Nat.sub_self]; rfl
  rw [ty_class h (by rw [hlen]; omega) hix, hlen]
  have hx : ((76 :: (nm ++ [59] ++ r) : List UInt8).take (nm.length + 1)).drop 1 = nm := by
   rw [List.take_succ_cons, List.drop_succ_cons, List.drop_zero, List.append_assoc, List.take_left']
   rfl
  rw [hx, if_pos hn]
  simp only [List.length_cons, List.length_append, List.length_nil]
theorem takeW {l : List UInt8} : ∀ y ∈ l.takeWhile (· == (91 : UInt8)), y = 91 := by
 intro y hy
 have := List.all_eq_true.1 (List.all_takeWhile (l := l) (p := (· == (91 : UInt8)))) y hy
 simpa using this
theorem parts {l : List UInt8} (h : tyLen l ≠ 0) : ∃ p t r, l = p ++ (t ++ r) ∧ (∀ y ∈ p, y = 91) ∧ p.length ≤ 3 ∧ Core t := by
 have hsplit := List.takeWhile_append_dropWhile (p := (· == (91 : UInt8))) (l := l)
 have hl := congrArg List.length hsplit
 rw [List.length_append] at hl
 by_cases h3 : 3 < l.length - (l.dropWhile (· == 91)).length
 ·exact absurd (ty_deep h3) h
 ·cases hr : l.dropWhile (· == 91) with
  | nil => exact absurd (ty_empty hr) h
  | cons c r =>
   rw [hr] at h3 hsplit hl
   have hp3 : (l.takeWhile (· == (91 : UInt8))).length ≤ 3 := by omega
   by_cases hc : c = 73
   ·subst hc; exact ⟨_, [73], r, hsplit.symm, takeW, hp3, .inl rfl⟩
   ·by_cases hc2 : c = 74
    ·subst hc2; exact ⟨_, [74], r, hsplit.symm, takeW, hp3, .inr (.inl rfl)⟩
    ·by_cases hd : c = 76
     ·subst hd
      have hge := Lib.indexByte_ge (76 :: r) 59
      by_cases hi : Lib.indexByte (76 :: r) 59 = -1
      ·exact absurd (ty_open hr hi) h
      ·obtain ⟨o, ho⟩ : ∃ o : Nat, Lib.indexByte (76 :: r) 59 = (o : Int) := ⟨(Lib.indexByte (76 :: r) 59).toNat, by omega⟩
       have h59 := (Lib.indexByte_some ho).1
       rw [ty_class hr h3 ho] at h
       cases hn : nameOk (((76 :: r).take o).drop 1) with
       | false => rw [hn] at h; exact absurd rfl h
       | true =>
        cases o with
        | zero => simp at h59
        | succ o =>
         rw [List.take_succ_cons, List.drop_succ_cons, List.drop_zero] at hn
         rw [List.getElem?_cons_succ] at h59
         obtain ⟨ho1, ho2⟩ := List.getElem?_eq_some_iff.1 h59
         refine ⟨_, 76 :: (r.take o ++ [59]), r.drop (o + 1), ?_, takeW, hp3, .inr (.inr ⟨r.take o, rfl, hn⟩)⟩
         have hr2 : r = r.take o ++ ([59] ++ r.drop (o + 1)) := by
          have := List.drop_eq_getElem_cons ho1
          rw [ho2] at this
          conv => lhs; rw [← List.take_append_drop o r, this]
          rfl
         conv => lhs; rw [← hsplit, hr2]
         simp
     ·exact absurd (ty_other hr (by rintro (h1 | h1); exact hc h1; exact hc2 h1) hd) h
theorem ty_append {x : List UInt8} (h : isTy x = true) (r : List UInt8) : tyLen (x ++ r) = x.length ∧ x.length ≤ 25 ∧ x.length ≠ 0 ∧ x.head? ≠ some 41 := by
 simp only [isTy, decide_eq_true_eq] at h
 obtain ⟨p, t, r0, rfl, hp, h3, ht⟩ := parts h.1
 have h1 := core_tail hp h3 ht r0
 have h2 := h.2
 rw [h1, List.length_append, List.length_append] at h2
 have hr0 : r0 = [] := List.eq_nil_of_length_eq_zero (by omega)
 subst hr0
 have h4 := core_tail hp h3 ht r
 have htl : 1 ≤ t.length ∧ t.length ≤ 22 ∧ t.head? ≠ some 41 := by
  rcases ht with rfl | rfl | ⟨nm, rfl, hn⟩
  ·exact ⟨by decide, by decide, by decide⟩
  ·exact ⟨by decide, by decide, by decide⟩
  ·simp only [nameOk, Bool.and_eq_true, decide_eq_true_eq] at hn
   simp only [List.length_cons, List.length_append, List.length_nil, List.head?_cons]
   exact ⟨by omega, by omega, by decide⟩
 rw [List.append_nil]
 refine ⟨by rw [List.append_assoc, h4, List.length_append], by rw [List.length_append]; omega, by rw [List.length_append]; omega, ?_⟩
 cases p with
 | nil => rw [List.nil_append]; exact htl.2.2
 | cons b p => have := hp b (List.mem_cons_self ..); subst this; simp
end Go.Proofs.YtlhobhnbgdicjaaGreatDoor.descs
namespace Go.Proofs.YtlhobhnbgdicjaaGreatDoor.descs
open Go.RowKit lib errs names texts
end Go.Proofs.YtlhobhnbgdicjaaGreatDoor.descs
namespace Go.Proofs.YtlhobhnbgdicjaaGreatDoor.descs
open Go.RowKit lib errs names texts
end Go.Proofs.YtlhobhnbgdicjaaGreatDoor.descs
