/- The law NameJoined's walk. No condition. -/
import Derived.Test.YtijbalnmfbpedaaDoorName3
namespace Go.Proofs.YtijbalnmfbpedaaDoor.names
open Go.RowKit Go.Proofs.YtijbalnmfbpedaaDoor.lib Go.Proofs.YtijbalnmfbpedaaDoor.errs

theorem nameOk_len {l : List UInt8} (h : nameOk l = true) : l ≠ [] ∧ l.length ≤ 20 := by
  simp only [nameOk, Bool.and_eq_true, decide_eq_true_eq] at h
  exact ⟨h.1.1.1, h.1.1.2⟩
theorem nameOk_append {a b : List UInt8} (ha : nameOk a = true) (hb : nameOk b = true) : nameOk (a ++ b) = decide (a.length + b.length ≤ 20) := by
  simp only [nameOk, Bool.and_eq_true, decide_eq_true_eq] at ha hb
  obtain ⟨⟨⟨a1, a2⟩, a3⟩, a4⟩ := ha
  obtain ⟨⟨⟨b1, b2⟩, b3⟩, b4⟩ := hb
  have h4 : ((a ++ b).head?.any digitB) = a.head?.any digitB := by
    cases a with
    | nil => exact absurd rfl a1
    | cons x r => rfl
  have h1 : a ++ b ≠ [] := by simp [a1]
  simp only [nameOk, List.all_append, a3, b3, h4, a4, List.length_append, Bool.and_true, decide_eq_true h1, Bool.true_and]
theorem nameOk_take {a : List UInt8} (ha : nameOk a = true) {k : Nat} (hk : 1 ≤ k) : nameOk (a.take k) = true := by
  simp only [nameOk, Bool.and_eq_true, decide_eq_true_eq] at ha ⊢
  obtain ⟨⟨⟨a1, a2⟩, a3⟩, a4⟩ := ha
  refine ⟨⟨⟨fun h => ?_, ?_⟩, ?_⟩, ?_⟩
  · rw [List.take_eq_nil_iff] at h; rcases h with h | h
    · omega
    · exact a1 h
  · rw [List.length_take]; omega
  · exact List.all_eq_true.2 fun c hc => List.all_eq_true.1 a3 c (List.mem_of_mem_take hc)
  · cases a with
    | nil => exact absurd rfl a1
    | cons x r =>
      obtain ⟨k', rfl⟩ : ∃ k', k = k' + 1 := ⟨k - 1, by omega⟩
      exact a4

set_option maxRecDepth 100000 in
set_option maxHeartbeats 1000000 in
theorem joined_any (a b : ByteArray) (n : Int) (w : World) (ha : a.size ≤ 9223372036854775807) (hb : b.size ≤ 9223372036854775807) (hn : -9223372036854775808 ≤ n ∧ n ≤ 9223372036854775807) :
    Calls Tryd.prog 4 #[.string a, .string b, .int .i64 n] w fun e w' => e = .returned (.bool true) ∧ Below w.heap.size w w' := by
  obtain ⟨n0, n1⟩ := hn
  have hsa : a.data.toList.length = a.size := by rw [Array.length_toList]; rfl
  have hsb : b.data.toList.length = b.size := by rw [Array.length_toList]; rfl
  have HSA := hid hsa; have HSB := hid hsb; clear hsa hsb
  cases hna : nameOk a.data.toList with
  | false =>
    have HN := hid hna; clear hna
    go_enter Tryd.func4, Tryd.ntmps4
    go_wp2_with fail
    refine (called_any _).mono ?_
    rintro e w1 ⟨rfl, hb1⟩
    go_wp2_with fail
    refine (check_any a _ ha).mono ?_
    intro e w2 h2
    obtain ⟨rfl, hb2⟩ := checked_false h2 HN.out
    clear h2
    have hb2 := hb1.trans (hb2.mono hb1.size)
    go_wp2_with fail
    refine (check_any b _ hb).mono ?_
    intro e w3 h3
    cases hnb : nameOk b.data.toList with
    | true =>
      obtain ⟨rfl, hb3⟩ := checked_true h3 hnb
      clear h3 hnb
      go_wp2
      go_ret
      exact ⟨rfl, hb2.trans (hb3.mono hb2.size)⟩
    | false =>
      obtain ⟨rfl, hb3⟩ := checked_false h3 hnb
      clear h3 hnb
      go_wp2
      go_ret
      exact ⟨rfl, hb2.trans (hb3.mono hb2.size)⟩
  | true =>
    have HN := hid hna; clear hna
    cases hnb : nameOk b.data.toList with
    | false =>
      have HNB := hid hnb; clear hnb
      go_enter Tryd.func4, Tryd.ntmps4
      go_wp2_with fail
      refine (called_any _).mono ?_
      rintro e w1 ⟨rfl, hb1⟩
      go_wp2_with fail
      refine (check_any a _ ha).mono ?_
      intro e w2 h2
      obtain ⟨rfl, hb2⟩ := checked_true h2 HN.out
      clear h2
      have hb2 := hb1.trans (hb2.mono hb1.size)
      go_wp2_with fail
      refine (check_any b _ hb).mono ?_
      intro e w3 h3
      obtain ⟨rfl, hb3⟩ := checked_false h3 HNB.out
      clear h3
      go_wp2
      go_ret
      exact ⟨rfl, hb2.trans (hb3.mono hb2.size)⟩
    | true =>
      have HNB := hid hnb; clear hnb
      obtain ⟨a1, a2⟩ := nameOk_len HN.out
      obtain ⟨b1, b2⟩ := nameOk_len HNB.out
      rw [HSA.out] at a2
      rw [HSB.out] at b2
      have a3 : 1 ≤ a.size := by
        rw [← HSA.out]
        exact List.length_pos_iff.2 a1
      clear a1 b1
      have hss : ¬ 9223372036854775807 < a.size + b.size := by omega
      go_enter Tryd.func4, Tryd.ntmps4
      go_wp2_with fail
      refine (called_any _).mono ?_
      rintro e w1 ⟨rfl, hb1⟩
      go_wp2_with fail
      refine (check_any a _ ha).mono ?_
      intro e w2 h2
      obtain ⟨rfl, hb2⟩ := checked_true h2 HN.out
      clear h2
      have hb2 := hb1.trans (hb2.mono hb1.size)
      go_wp2_with fail
      refine (check_any b _ hb).mono ?_
      intro e w3 h3
      obtain ⟨rfl, hb3⟩ := checked_true h3 HNB.out
      clear h3
      have hb3 := hb2.trans (hb3.mono hb2.size)
      go_wp2_with fail
      obtain ⟨k, hk, hk1, hk2⟩ : ∃ k : Nat, wrap64 (1 + wrap64 ((IntKind.u64.wrap n).tmod (a.size : Int))) = (k : Int) ∧ 1 ≤ k ∧ k ≤ a.size := by
        have hu : 0 ≤ IntKind.u64.wrap n := by rw [IntKind.wrap_u64]; omega
        generalize IntKind.u64.wrap n = u at hu
        have h1 : 0 ≤ u.tmod (a.size : Int) := Int.tmod_nonneg _ hu
        have h2 : u.tmod (a.size : Int) < (a.size : Int) := Int.tmod_lt_of_pos _ (by omega)
        generalize u.tmod (a.size : Int) = r at h1 h2
        refine ⟨(1 + r).toNat, ?_, by omega, by omega⟩
        rw [IntWalk.wrap64_in r (by omega), IntWalk.wrap64_in (1 + r) (by omega)]
        omega
      rw [hk]
      clear hk
      have hab : nameOk (a ++ b).data.toList = decide (a.size + b.size ≤ 20) := by
        rw [ByteArray.data_append, Array.toList_append, nameOk_append HN.out HNB.out, HSA.out, HSB.out]
      have HAB := hid hab; clear hab
      have HAK : Hid (nameOk (a.extract 0 k).data.toList = true) := hid (by rw [Lib.extract_data]; exact nameOk_take HN.out (by omega))
      have hks : (a.extract 0 k).size ≤ 9223372036854775807 := by
        have : (a.extract 0 k).size ≤ a.size := by rw [ByteArray.size_extract]; omega
        omega
      have hk1' : (0 : Int) ≤ (k : Int) := by omega
      have hk2' : (k : Int) ≤ (a.size : Int) := by omega
      refine (check_any (a ++ b) _ (by rw [ByteArray.size_append]; omega)).mono ?_
      intro e w4 h4
      by_cases h20 : a.size + b.size ≤ 20
      · obtain ⟨rfl, hb4⟩ := checked_true h4 (by rw [HAB.out]; exact decide_eq_true h20)
        clear h4
        have hb4 := hb3.trans (hb4.mono hb3.size)
        have h20' : (a.size : Int) + (b.size : Int) ≤ 20 := by omega
        go_wp2_with fail
        refine (check_any (a.extract 0 k) _ hks).mono ?_
        intro e w5 h5
        obtain ⟨rfl, hb5⟩ := checked_true h5 HAK.out
        clear h5
        go_wp2
        go_ret
        exact ⟨rfl, hb4.trans (hb5.mono hb4.size)⟩
      · obtain ⟨rfl, hb4⟩ := checked_false h4 (by rw [HAB.out]; exact decide_eq_false h20)
        clear h4
        have hb4 := hb3.trans (hb4.mono hb3.size)
        have h20' : ¬ (a.size : Int) + (b.size : Int) ≤ 20 := by omega
        go_wp2_with fail
        refine (check_any (a.extract 0 k) _ hks).mono ?_
        intro e w5 h5
        obtain ⟨rfl, hb5⟩ := checked_true h5 HAK.out
        clear h5
        go_wp2
        go_ret
        exact ⟨by rw [decide_eq_false (show ¬ (a.size : Int) + (b.size : Int) ≤ 20 by omega)]; rfl, hb4.trans (hb5.mono hb4.size)⟩

end Go.Proofs.YtijbalnmfbpedaaDoor.names
