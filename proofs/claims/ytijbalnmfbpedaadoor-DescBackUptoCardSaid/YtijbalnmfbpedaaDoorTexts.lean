/- coffeehousesame.Texts: two lists of texts. No condition. -/
import Derived.Test.YtijbalnmfbpedaaDoorLib
import Derived.Test.YtijbalnmfbpedaaDoorRows
import Derived.BigQuiet
namespace Go.Proofs.YtijbalnmfbpedaaDoor.texts
open Go.RowKit Go.Proofs.YtijbalnmfbpedaaDoor.lib

theorem sl_strs {w : World} {a : Option Addr} {n c : Nat} {xs : List ByteArray} (h : Sl w (.slice a n c) n 1 (xs.map .string)) {k : Nat} (hk : k < xs.length) :
    ∃ b off, a = some ⟨b, off, none⟩ ∧ w.cell? ⟨b, off + k, none⟩ = some (.string xs[k]) := by
  have hn : n = xs.length := by have := h.1; simp at this; exact this.symm
  obtain ⟨b, off, rfl, u, hu, hc⟩ := h.at1 (k := k) (by omega)
  refine ⟨b, off, rfl, ?_⟩
  rw [List.getElem?_map, List.getElem?_eq_getElem hk] at hu
  simp at hu
  rw [hc, hu]

theorem take_same {α : Type} {xs ys : List α} {k : Nat} (h : xs.take k = ys.take k) (h1 : k < xs.length) (h2 : k < ys.length) (he : xs[k] = ys[k]) : xs.take (k + 1) = ys.take (k + 1) := by
  rw [List.take_add_one, List.take_add_one, h, List.getElem?_eq_getElem h1, List.getElem?_eq_getElem h2, he]

set_option maxHeartbeats 1000000 in
theorem texts_any (va vb : Value) (xs ys : List ByteArray) (w : World) (ha : Sl w va xs.length 1 (xs.map .string)) (hb : Sl w vb ys.length 1 (ys.map .string)) (hn : xs.length ≤ 1000000000000) :
    Calls Tryd.prog 24 #[va, vb] w fun e w' => e = .returned (.bool (decide (xs = ys))) ∧ Below w.heap.size w w' := by
  obtain ⟨a, c, rfl⟩ := ha.val
  obtain ⟨b, d, rfl⟩ := hb.val
  have HA := hid ha; have HB := hid hb; clear ha hb
  obtain ⟨E, hE⟩ : ∃ E, decide (xs = ys) = E := ⟨_, rfl⟩
  rw [hE]
  by_cases hlen : xs.length = ys.length
  · have HE := hid hE
    have hl0 : ((xs.length : Int) == (ys.length : Int)) = true := by simp [hlen]
    clear hE
    go_enter Tryd.func24, Tryd.ntmps24
    go_wp2_with fail
    go_loopw [5] (fun i wr => ∃ k : Nat, k ≤ xs.length ∧ i = .int .i64 k ∧ Hid (Below w.heap.size w wr) ∧ Hid (xs.take k = ys.take k)) (fun i _ => xs.length - (intOf i).toNat)
    case atStart => exact ⟨0, Nat.zero_le _, rfl, hid (Below.refl _ _), hid rfl⟩
    case round =>
      obtain ⟨k, hk, rfl, HR, HT⟩ := hrel
      by_cases hlt : k < xs.length
      · have hlt2 : k < ys.length := by omega
        obtain ⟨bx, ox, hax, hcx⟩ := sl_strs (HA.out.below HR.out) hlt
        obtain ⟨by_, oy, hay, hcy⟩ := sl_strs (HB.out.below HR.out) hlt2
        subst hax
        subst hay
        have hi : (0 : Int) ≤ (k : Int) := by omega
        have hl : (k : Int) < (xs.length : Int) := by omega
        have hl2 : (k : Int) < (ys.length : Int) := by omega
        by_cases heq : xs[k] = ys[k]
        · have HS := hid (take_same HT.out hlt hlt2 heq)
          rw [← heq] at hcy
          generalize xs[k] = X at hcx hcy
          clear heq hlt2
          go_wp2_with fail
          go_quiet (fail)
          go_wp2
          go_roundw
          case rel => exact ⟨k + 1, by omega, by go_num, hid (below_drewN HR.out _), HS⟩
          case measure => simp [intOf]; omega
        · have hne := str_neb heq
          have hne2 : ¬ xs[k].toList = ys[k].toList := by rw [beq_eq_false_iff_ne] at hne; exact hne
          have HF : Hid (E = false) := hid (by rw [← HE.out]; exact decide_eq_false (fun h => heq (by subst h; rfl)))
          generalize xs[k] = X at hcx hne hne2
          generalize ys[k] = Y at hcy hne hne2
          clear heq hlt2
          go_wp2_with fail
          go_quiet (fail)
          go_wp2
          go_ret
          rw [HF.out]
          exact ⟨rfl, below_drewN HR.out _⟩
      · have HTR : Hid (E = true) := hid (by
          rw [← HE.out]
          have h := HT.out
          rw [List.take_of_length_le (by omega), List.take_of_length_le (by omega)] at h
          exact decide_eq_true h)
        go_wp2_with fail
        go_ret
        rw [HTR.out]
        exact ⟨rfl, HR.out⟩
  · have HF : Hid (E = false) := hid (by rw [← hE]; exact decide_eq_false (fun h => hlen (by rw [h])))
    have hl0 : ((xs.length : Int) == (ys.length : Int)) = false := beq_eq_false_iff_ne.2 (by omega)
    clear hE
    go_enter Tryd.func24, Tryd.ntmps24
    go_wp2_with fail
    go_ret
    rw [HF.out]
    exact ⟨rfl, Below.refl _ _⟩

end Go.Proofs.YtijbalnmfbpedaaDoor.texts
