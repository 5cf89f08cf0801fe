/- Numbers, as the document does them: floor, Wrap. Condition: the numbers are of 64 bits. -/
import Derived.Test.YtikkhjcocmihlaaDoorNum1
set_option linter.unusedSimpArgs false
set_option linter.unusedVariables false
namespace Go.Proofs.YtikkhjcocmihlaaDoor.nums
open Go.RowKit Go.Proofs.YtikkhjcocmihlaaDoor.lib

theorem tdiv_neg_pos {n b : Int} (h : n < 0) : n.tdiv b = -((-n) / b) := by
  have e : n = -(-n) := by omega
  rw [e, Int.neg_tdiv, Int.tdiv_eq_ediv_of_nonneg (by omega)]
  simp
theorem floor_plain {n b : Int} (hb : b = 2 ∨ b = 4294967296) : (if n < n.tdiv b * b then n.tdiv b - 1 else n.tdiv b) = n / b := by
  rcases Int.lt_or_le n 0 with h | h
  · rw [tdiv_neg_pos h]
    rcases hb with rfl | rfl <;> split <;> omega
  · rw [Int.tdiv_eq_ediv_of_nonneg h]
    rcases hb with rfl | rfl <;> split <;> omega
theorem tdiv_in {n b : Int} (hb : b = 2 ∨ b = 4294967296) (h : InR n) : wrap64 (n.tdiv b) = n.tdiv b ∧ wrap64 (n.tdiv b * b) = n.tdiv b * b ∧ wrap64 (n.tdiv b - 1) = n.tdiv b - 1 := by
  unfold InR at h
  rcases Int.lt_or_le n 0 with hn | hn
  · rw [tdiv_neg_pos hn]
    rcases hb with rfl | rfl <;> unfold wrap64 <;> omega
  · rw [Int.tdiv_eq_ediv_of_nonneg hn]
    rcases hb with rfl | rfl <;> unfold wrap64 <;> omega

set_option maxHeartbeats 1000000 in
theorem floor_any (n b : Int) (w : World) (hb : b = 2 ∨ b = 4294967296) (h : InR n) : Calls Tryd.prog 19 #[.int .i64 n, .int .i64 b] w fun e w' => e = .returned (.int .i64 (n / b)) ∧ w = w' := by
  have HP := hid (floor_plain (n := n) hb)
  obtain ⟨h1, h2, h3⟩ := tdiv_in hb h
  have hb0 : (b == 0) = false := by rcases hb with rfl | rfl <;> rfl
  have hb1 : ¬ b = 0 := by rcases hb with rfl | rfl <;> decide
  obtain ⟨q, hq⟩ : ∃ q, n.tdiv b = q := ⟨_, rfl⟩
  rw [hq] at h1 h2 h3 HP
  clear hb h
  by_cases hc : n < q * b
  · have HR : Hid (q - 1 = n / b) := hid (by have := HP.out; rwa [if_pos hc] at this)
    clear HP
    go_enter Tryd.func19, Tryd.ntmps19
    go_wp2
    go_ret
    rw [← HR.out]
    refine ⟨?_, rfl⟩
    show Ending.returned (.int .i64 (wrap64 (q - 1))) = _
    rw [h3]
  · have HR : Hid (q = n / b) := hid (by have := HP.out; rwa [if_neg hc] at this)
    clear HP
    go_enter Tryd.func19, Tryd.ntmps19
    go_wp2
    go_ret
    rw [← HR.out]
    exact ⟨rfl, rfl⟩

set_option maxHeartbeats 1000000 in
theorem wrap_any (n : Int) (w : World) (h : InR n) : Calls Tryd.prog 9 #[.int .i64 n] w fun e w' => e = .returned (.int .i64 (wrap32 n)) ∧ w = w' := by
  have HF := hid (fun w => floor_any n 4294967296 w (.inr rfl) h)
  obtain ⟨f, hf⟩ : ∃ f, n / 4294967296 = f := ⟨_, rfl⟩
  rw [hf] at HF
  have h1 : wrap64 (f * 4294967296) = f * 4294967296 := by unfold InR at h; unfold wrap64; omega
  have h2 : wrap64 (n - f * 4294967296) = n - f * 4294967296 := by unfold InR at h; unfold wrap64; omega
  obtain ⟨K, hK⟩ : ∃ K, n - f * 4294967296 = K := ⟨_, rfl⟩
  rw [hK] at h2
  by_cases hc : 2147483648 ≤ K
  · have HR : Hid (K - 4294967296 = wrap32 n) := hid (by unfold wrap32; omega)
    have h3 : wrap64 (K - 4294967296) = K - 4294967296 := by unfold InR at h; unfold wrap64; omega
    clear hf h
    go_enter Tryd.func9, Tryd.ntmps9
    go_wp2_with fail
    refine (HF.out _).mono ?_
    rintro e w2 ⟨rfl, hww⟩
    obtain rfl := hww.symm
    go_wp2
    go_ret
    rw [← HR.out]
    refine ⟨?_, rfl⟩
    show Ending.returned (.int .i64 (wrap64 (K - 4294967296))) = _
    rw [h3]
  · have HR : Hid (K = wrap32 n) := hid (by unfold wrap32; omega)
    clear hf h
    go_enter Tryd.func9, Tryd.ntmps9
    go_wp2_with fail
    refine (HF.out _).mono ?_
    rintro e w2 ⟨rfl, hww⟩
    obtain rfl := hww.symm
    go_wp2
    go_ret
    rw [← HR.out]
    refine ⟨?_, rfl⟩
    show Ending.returned (.int .i64 (wrap64 K)) = _
    rw [h2]

end Go.Proofs.YtikkhjcocmihlaaDoor.nums
