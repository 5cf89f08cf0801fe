/- Types of methods, changed: the plain laws of MtypeBack. No condition. -/
import Derived.Test.YtogpgfaojmmemaaGreatDoorMtype6
namespace Go.Proofs.YtogpgfaojmmemaaGreatDoor.mtypes
open Go.RowKit Go.Proofs.YtogpgfaojmmemaaGreatDoor.lib Go.Proofs.YtogpgfaojmmemaaGreatDoor.errs Go.Proofs.YtogpgfaojmmemaaGreatDoor.names Go.Proofs.YtogpgfaojmmemaaGreatDoor.texts Go.Proofs.YtogpgfaojmmemaaGreatDoor.descs

theorem putL_erase {ts : List (List UInt8)} {i : Nat} (t : List UInt8) (hi : i ≤ ts.length) : (putL ts i t).eraseIdx i = ts := by
  unfold putL
  have hl : (ts.take i).length = i := by rw [List.length_take]; omega
  rw [List.eraseIdx_append_of_length_le (by omega), hl, Nat.sub_self]
  simp

/-- an inserted argument can be dropped again -/
theorem put_drop {M t A : List UInt8} {n : Int} (h : putOf M n t = (0, A)) : dropOf A n = (0, M) ∧ A.length ≤ 200 := by
  unfold putOf at h
  cases hm : methodOf M with
  | none => rw [hm] at h; simp at h
  | some r =>
    obtain ⟨ts, g⟩ := r
    rw [hm] at h
    simp only at h
    by_cases hr : n < 0 ∨ (ts.length : Int) < n
    · rw [if_pos hr] at h; simp at h
    · rw [if_neg hr] at h
      by_cases ht : isTy t = true
      · rw [if_pos ht] at h
        by_cases h5 : ts.length = 5
        · rw [if_pos h5] at h; simp at h
        · rw [if_neg h5] at h
          simp only [Prod.mk.injEq, true_and] at h
          obtain ⟨i, rfl⟩ : ∃ i : Nat, n = (i : Int) := ⟨n.toNat, by omega⟩
          rw [Int.toNat_natCast] at h
          have hi : i ≤ ts.length := by omega
          have hf := (fault_put hm ht hi).2
          rw [if_neg h5] at hf
          have hM := method_make hf
          rw [h] at hM
          have hsm := (text_small hf).2.2.2.1
          rw [h] at hsm
          refine ⟨?_, hsm⟩
          unfold dropOf
          rw [hM]
          simp only
          rw [if_neg (by rw [putL_len t hi]; omega), Int.toNat_natCast, putL_erase t hi, (make_method hm).2]
      · rw [if_neg ht] at h; simp at h

/-- a change can be undone -/
theorem change_back {M t C g : List UInt8} {ts : List (List UInt8)} {n : Int} (hm : methodOf M = some (ts, g)) (h : changeOf M n t = (0, C)) : ∃ i : Nat, n = (i : Int) ∧ ∃ hi : i < ts.length, changeOf C n ts[i] = (0, M) ∧ C.length ≤ 200 := by
  unfold changeOf at h
  rw [hm] at h
  simp only at h
  by_cases hr : n < 0 ∨ (ts.length : Int) ≤ n
  · rw [if_pos hr] at h; simp at h
  · rw [if_neg hr] at h
    by_cases ht : isTy t = true
    · rw [if_pos ht] at h
      simp only [Prod.mk.injEq, true_and] at h
      obtain ⟨i, rfl⟩ : ∃ i : Nat, n = (i : Int) := ⟨n.toNat, by omega⟩
      rw [Int.toNat_natCast] at h
      have hi : i < ts.length := by omega
      refine ⟨i, rfl, hi, ?_⟩
      have hM := method_make (fault_set (i := i) hm ht).1
      rw [h] at hM
      have hsm := (text_small (fault_set (i := i) hm ht).1).2.2.2.1
      rw [h] at hsm
      refine ⟨?_, hsm⟩
      have hti : isTy ts[i] = true := List.all_eq_true.1 (text_small (make_method hm).1).2.1 _ (List.getElem_mem hi)
      unfold changeOf
      rw [hM]
      simp only
      rw [if_neg (by rw [List.length_set]; omega), if_pos hti, Int.toNat_natCast, List.set_set, List.set_getElem_self, (make_method hm).2]
    · rw [if_neg ht] at h; simp at h

end Go.Proofs.YtogpgfaojmmemaaGreatDoor.mtypes
