/- Locks: the reference's Leave. Condition: not many calls came before. -/
import Derived.Test.YtmfhmikihnjkcaaLock16
import Derived.Test.YtmfhmikihnjkcaaSrc
namespace Go.Proofs.Ytmfhmikihnjkcaa.locks
open Go.RowKit Go.Proofs.Ytmfhmikihnjkcaa.lib Go.Proofs.Ytmfhmikihnjkcaa.maps Go.Proofs.Ytmfhmikihnjkcaa.errs

/-- nobody waits for it among the first so many -/
theorem noWait_end {A : St} {k : Int} (h : ∀ j (hj : j < A.waits.length), A.waits[j].2 ≠ k) : waiting A k = [] := by
  unfold waiting
  rw [List.map_eq_nil_iff, List.filter_eq_nil_iff]
  intro q hq
  obtain ⟨j, hj, rfl⟩ := List.mem_iff_getElem.1 hq
  simpa using h j hj
theorem noWait_step {l : List (Int × Int)} {x : Int} {k : Nat} (h : ∀ j (hj : j < l.length), j < k → l[j].2 ≠ x) (hk : k < l.length) (hne : l[k].2 ≠ x) : ∀ j (hj : j < l.length), j < k + 1 → l[j].2 ≠ x := fun j hj hjk => by
  by_cases e : j = k
  · subst e; exact hne
  · exact h j hj (by omega)
theorem first_wait {l : List (Int × Int)} {k : Int} {i : Nat} (hi : i < l.length) (hn : ∀ j (hj : j < l.length), j < i → l[j].2 ≠ k) (he : l[i].2 = k) :
    (∃ r, (l.filter fun q => decide (q.2 = k)).map (·.1) = l[i].1 :: r) ∧ l.eraseP (fun q => decide (q.2 = k)) = l.take i ++ l.drop (i + 1) := by
  induction l generalizing i with
  | nil => simp at hi
  | cons q l ih =>
    cases i with
    | zero =>
      have he' : q.2 = k := he
      refine ⟨⟨(l.filter fun q => decide (q.2 = k)).map (·.1), by simp [he']⟩, by simp [he']⟩
    | succ i =>
      have h0 : ¬ q.2 = k := hn 0 (by simp) (by omega)
      obtain ⟨⟨r, h1⟩, h2⟩ := ih (i := i) (by simpa using hi) (fun j hj hji => by have := hn (j + 1) (by simpa using hj) (by omega); simpa using this) (by simpa using he)
      refine ⟨⟨r, by simpa [h0] using h1⟩, by simp [h0, h2]⟩

set_option maxRecDepth 100000 in
set_option maxHeartbeats 4000000 in
theorem rleave_bad {w : World} {base q gw gt c : Nat} {vw : Value} {A : St} (h : RL w base q gw gt vw A) (hI : Inv A c) (hc : c ≤ 1000000) (x k : Int) (hf : leaveFault A x k ≠ 0) :
    Calls Try.prog 14 #[.pointer (some ⟨q, 0, none⟩), .int .i64 x, .int .i64 k] w fun e w' => e = .returned (.int .i64 (leaveFault A x k)) ∧ RBy w base q gw gt vw (leaveSt A x k) w' := by
  have HW := hid (rfault_any h hI hc x k)
  have HQ : Hid (RBy w base q gw gt vw (leaveSt A x k) w) := hid ⟨vw, by rw [leaveSt, if_pos hf]; exact h, Keeps.refl _ _, fun k hk => .inl hk⟩
  by_cases h0 : fault A x k = 0
  · have hz : leaveFault A x k = 3 ∧ (A.times k = 0 ∨ A.who k ≠ x) := by
      unfold leaveFault at hf ⊢
      rw [if_neg (by rw [h0]; simp)] at hf ⊢
      by_cases h1 : A.times k = 0 ∨ A.who k ≠ x
      · rw [if_pos h1]; exact ⟨rfl, h1⟩
      · rw [if_neg h1] at hf; exact absurd rfl hf
    obtain ⟨hz, hcase⟩ := hz
    obtain ⟨_, ⟨hk0, hk1⟩, _⟩ := fault_zero h0
    obtain ⟨kk, rfl⟩ : ∃ kk : Nat, k = (kk : Int) := ⟨k.toNat, by omega⟩
    have hkk : kk < 50 := by omega
    obtain ⟨hq0, hq1, hq2⟩ := h.cells
    obtain ⟨hw0, hwf⟩ := h.who.cell hkk
    obtain ⟨ht0, htf⟩ := h.times.cell hkk
    have HZ := hid hz
    have HF := hid h0
    clear h hI hf h0 hz
    by_cases ht : A.times (kk : Int) = 0
    · rw [ht] at ht0
      clear ht hcase
      go_enter Try.func14, Try.ntmps14
      go_wp2_with fail
      refine HW.out.mono ?_
      rintro e w1 ⟨rfl, rfl⟩
      rw [HF.out]
      go_wp2
      go_ret
      exact ⟨by rw [HZ.out]; rfl, HQ.out⟩
    · have hne := hcase.resolve_left ht
      have ht2 : (A.times (kk : Int) == 0) = false := by simp [ht]
      have hne2 : (A.who (kk : Int) == x) = false := by simp [hne]
      have hne3 : (A.who (kk : Int) != x) = true := by simp [hne]
      clear hcase
      go_enter Try.func14, Try.ntmps14
      go_wp2_with fail
      refine HW.out.mono ?_
      rintro e w1 ⟨rfl, rfl⟩
      rw [HF.out]
      go_wp2
      go_ret
      exact ⟨by rw [HZ.out]; rfl, HQ.out⟩
  · have hz : leaveFault A x k = fault A x k := by unfold leaveFault; rw [if_pos h0]
    have HZ := hid hz
    have hzb : (fault A x k == 0) = false := by simp [h0]
    clear h hI hf hz
    go_enter Try.func14, Try.ntmps14
    go_wp2_with fail
    refine HW.out.mono ?_
    rintro e w1 ⟨rfl, rfl⟩
    go_wp2
    go_ret
    exact ⟨by rw [HZ.out]; rfl, HQ.out⟩

/-- once less: the number alone has turned -/
theorem RL.less {w : World} {base q gw gt : Nat} {vw : Value} {A : St} (h : RL w base q gw gt vw A) {kk : Nat} (hkk : kk < 50) :
    RL (w.setCell ⟨gt, kk, none⟩ (.int .i64 (A.times (kk : Int) - 1))) base q gw gt vw (lessSt A (kk : Int)) ∧ Keeps (RF q gw gt vw) w (w.setCell ⟨gt, kk, none⟩ (.int .i64 (A.times (kk : Int) - 1))) := by
  have hK := Keeps.set w gt kk (.int .i64 (A.times (kk : Int) - 1))
  refine ⟨⟨h.lo, h.ne, h.vne, ?_, ?_, h.times.set hkk _, ?_⟩, hK.mono fun g _ e => .inr (.inr (.inl e))⟩
  · rw [hK.block q (h.lt (.inl rfl)).2 h.ne.2.1]; exact h.top
  · exact h.who.keep (hK.block gw h.who.lt h.ne.2.2)
  · exact ownsRow_keep h.row fun g hg => hK.block g (h.row.lt g hg).2 (h.vne g hg).2.2

set_option maxRecDepth 100000 in
set_option maxHeartbeats 4000000 in
theorem rleave_less {w : World} {base q gw gt c : Nat} {vw : Value} {A : St} (h : RL w base q gw gt vw A) (hI : Inv A c) (hc : c ≤ 1000000) (x k : Int) (hf : leaveFault A x k = 0) (ht : 1 < A.times k) :
    Calls Try.prog 14 #[.pointer (some ⟨q, 0, none⟩), .int .i64 x, .int .i64 k] w fun e w' => e = .returned (.int .i64 (leaveFault A x k)) ∧ RBy w base q gw gt vw (leaveSt A x k) w' := by
  have HW := hid (rfault_any h hI hc x k)
  obtain ⟨hf0, hf1, hf2⟩ := leave_zero hf
  obtain ⟨_, ⟨hk0, hk1⟩, _⟩ := fault_zero hf0
  obtain ⟨kk, rfl⟩ : ∃ kk : Nat, k = (kk : Int) := ⟨k.toNat, by omega⟩
  have hkk : kk < 50 := by omega
  obtain ⟨hq0, hq1, hq2⟩ := h.cells
  obtain ⟨hw0, hwf⟩ := h.who.cell hkk
  obtain ⟨ht0, htf⟩ := h.times.cell hkk
  obtain ⟨hR, hKK⟩ := h.less hkk
  obtain ⟨hq0', hq1', _⟩ := hR.cells
  obtain ⟨ht0', _⟩ := hR.times.cell hkk
  have htb := hI.t0 (kk : Int)
  have hov : IntKind.i64.wrap (A.times (kk : Int) - 1) = A.times (kk : Int) - 1 := by rw [IntKind.wrap_i64]; omega
  have HQ : Hid (RBy w base q gw gt vw (leaveSt A x (kk : Int)) (w.setCell ⟨gt, kk, none⟩ (.int .i64 (A.times (kk : Int) - 1)))) := hid ⟨vw, by rw [leaveSt, if_neg (by rw [hf]; simp), if_pos ht]; exact hR, hKK, fun k hk => .inl hk⟩
  have HF := hid hf0
  have HZ := hid hf
  have ht2 : (A.times (kk : Int) == 0) = false := by simp [hf1]
  have ht3 : (0 : Int) < A.times (kk : Int) - 1 := by omega
  have ht4 : (lessSt A (kk : Int)).times (kk : Int) = A.times (kk : Int) - 1 := by unfold lessSt; exact upd_same _ _ _
  rw [ht4] at ht0'
  rw [hf2] at hw0
  generalize A.times (kk : Int) = T at ht0 hov ht2 ht3 ht0' hq0' hq1' HQ
  clear h hI hf hf0 hf1 hf2 hR hKK ht htb
  go_enter Try.func14, Try.ntmps14
  go_wp2_with fail
  refine HW.out.mono ?_
  rintro e w1 ⟨rfl, rfl⟩
  rw [HF.out]
  go_wp2
  go_ret
  exact ⟨by rw [HZ.out]; rfl, HQ.out⟩
end Go.Proofs.Ytmfhmikihnjkcaa.locks
