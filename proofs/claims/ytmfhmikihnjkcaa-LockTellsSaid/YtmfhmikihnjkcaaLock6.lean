/- Locks: Leave. Condition: not many calls came before. -/
import Derived.Test.YtmfhmikihnjkcaaLock5
import Derived.BigRegion
namespace Go.Proofs.Ytmfhmikihnjkcaa.locks
open Go.RowKit Go.Proofs.Ytmfhmikihnjkcaa.lib Go.Proofs.Ytmfhmikihnjkcaa.maps Go.Proofs.Ytmfhmikihnjkcaa.errs

/-- once less, and still his -/
theorem PL.less {w : World} {base p : Nat} {m : Gh} {A : St} (h : PL w base p m A) {k : Int} {b : Nat} (hb : getK m.LA k = some b) (ht : 1 < A.times k) :
    PL (w.setCell ⟨b, 1, none⟩ (.int .i64 (A.times k - 1))) base p m (lessSt A k) := by
  obtain ⟨v, hv⟩ := h.lk k b hb
  have hK := Keeps.set w b 1 (.int .i64 (A.times k - 1))
  have hne : ∀ g t, m.own g = some t → t ≠ (3, k) → (w.setCell ⟨b, 1, none⟩ (.int .i64 (A.times k - 1))).heap[g]? = w.heap[g]? := fun g t hg ht => hK.block g (h.lim g t hg).2 fun e => by
    subst e; rw [hv.own] at hg; exact ht (Option.some.inj hg).symm
  refine ⟨fun j t ht => ⟨(h.lim j t ht).1, Nat.lt_of_lt_of_le (h.lim j t ht).2 hK.size⟩, h.topo, by rw [hne _ _ h.topo (by simp)]; exact h.top, h.mAo, map_keep intKey h.mA (hne _ _ h.mAo (by simp)), h.mWo, map_keep intKey h.mW (hne _ _ h.mWo (by simp)), fun j c hc => ?_, fun j hj => ?_, h.wt, h.onceA, h.onceW⟩
  · by_cases e : j = k
    · subst e
      rw [hb] at hc
      obtain rfl := Option.some.inj hc
      refine ⟨v, hv.own, ?_, ?_, hv.row.keep fun g hg => hne g _ (hv.rown g hg) (by simp), hv.rown⟩
      · simp only [lessSt, upd_same]; omega
      · rw [heap_set hv.heap]
        simp [lessSt, upd_same]
    · obtain ⟨u, hu⟩ := h.lk j c hc
      have hk := hu.keep (w' := w.setCell ⟨b, 1, none⟩ (.int .i64 (A.times k - 1))) fun g hg => hg.elim (fun hg => hne g _ hg (by simp [e])) (fun hg => hne g _ hg (by simp))
      refine ⟨u, hk.own, ?_, ?_, hk.row, hk.rown⟩
      · simp only [lessSt, upd_other _ _ e]; exact hk.pos
      · simp only [lessSt, upd_other _ _ e]; exact hk.heap
  · by_cases e : j = k
    · subst e; rw [hb] at hj; cases hj
    · simp only [lessSt, upd_other _ _ e]; exact h.no j hj

def ghGone (m : Gh) (k : Int) : Gh := { m with LA := delK m.LA k }
/-- nobody's any more -/
theorem PL.gone {w w2 : World} {base p : Nat} {m : Gh} {A : St} (h : PL w base p m A) {k : Int} {b : Nat} (hb : getK m.LA k = some b) (ht : A.times k = 1)
    (h1 : MapIs intKey w2 m.bA (delK (ptrs m.LA) k)) (h2 : (w.setCell ⟨b, 1, none⟩ (.int .i64 0)).grownBy w2 (some m.bA)) :
    PL w2 base p (ghGone m k) (lessSt A k) ∧ Keeps (fun g => m.own g ≠ none) w w2 := by
  obtain ⟨v, hv⟩ := h.lk k b hb
  have hK := Keeps.set w b 1 (.int .i64 0)
  have hs : w.heap.size ≤ w2.heap.size := Nat.le_trans hK.size h2.size
  have hold : ∀ g, g < w.heap.size → g ≠ b → g ≠ m.bA → w2.heap[g]? = w.heap[g]? := fun g hg a1 a2 => by
    rw [h2.block g (Nat.lt_of_lt_of_le hg hK.size) (fun e => a2 (Option.some.inj e)), hK.block g hg a1]
  have hne : ∀ g t, m.own g = some t → t ≠ (3, k) → t ≠ (1, 0) → w2.heap[g]? = w.heap[g]? := fun g t hg a1 a2 => hold g (h.lim g t hg).2
    (fun e => by subst e; rw [hv.own] at hg; exact a1 (Option.some.inj hg).symm) (fun e => by subst e; rw [h.mAo] at hg; exact a2 (Option.some.inj hg).symm)
  refine ⟨⟨fun j t ht => ⟨(h.lim j t ht).1, Nat.lt_of_lt_of_le (h.lim j t ht).2 hs⟩, h.topo, by rw [hne _ _ h.topo (by simp) (by simp)]; exact h.top, h.mAo, ?_, h.mWo, map_keep intKey h.mW (hne _ _ h.mWo (by simp) (by simp)), fun j c hc => ?_, fun j hj => ?_, h.wt, once_del h.onceA _, h.onceW⟩, ?_⟩
  · unfold ghGone ptrs
    unfold ptrs at h1
    rwa [delK_map (fun b : Nat => Value.pointer (some ⟨b, 0, none⟩))] at h1
  · have hc' : getK (delK m.LA k) j = some c := hc
    rw [getK_del h.onceA] at hc'
    by_cases e : j = k
    · rw [if_pos e] at hc'; cases hc'
    · rw [if_neg e] at hc'
      obtain ⟨u, hu⟩ := h.lk j c hc'
      have hk := hu.keep (w' := w2) fun g hg => hg.elim (fun hg => hne g _ hg (by simp [e]) (by simp)) (fun hg => hne g _ hg (by simp) (by simp))
      refine ⟨u, hk.own, ?_, ?_, hk.row, hk.rown⟩
      · simp only [lessSt, upd_other _ _ e]; exact hk.pos
      · simp only [lessSt, upd_other _ _ e]; exact hk.heap
  · have hj' : getK (delK m.LA k) j = none := hj
    rw [getK_del h.onceA] at hj'
    by_cases e : j = k
    · subst e; simp only [lessSt, upd_same]; omega
    · rw [if_neg e] at hj'
      simp only [lessSt, upd_other _ _ e]; exact h.no j hj'
  · exact ⟨h2.os.trans hK.os, h2.tape.trans hK.tape, h2.output.trans hK.output, hs, fun g hg hF => hold g hg (fun e => hF (by rw [e, hv.own]; simp)) (fun e => hF (by rw [e, h.mAo]; simp))⟩

def ghNext (m : Gh) (y : Int) : Gh := { m with LW := delK m.LW y }
/-- the first that waits has it -/
theorem PL.next {w w3 : World} {base p c : Nat} {m : Gh} {A : St} (h : PL w base p m A) (hI : Inv A c) {k y : Int} {r : List Int} {b : Nat} {v v' : Value} (hb : getK m.LA k = some b) (hv : Lk w m A k b v) (hwt : waiting A k = y :: r)
    (h0 : w3.heap[b]? = some (.cells #[.int .i64 y, .int .i64 1, v'] 52 (0, 0))) (hrow : OffOwn w 3 v' (iv r)) (hro : ∀ g, v'.ownBlock = some g → v.ownBlock = some g)
    (h1 : MapIs intKey w3 m.bW (delK (ints m.LW) y)) (hs : w.heap.size ≤ w3.heap.size) (hold : ∀ g, g < w.heap.size → g ≠ b → g ≠ m.bW → w3.heap[g]? = w.heap[g]?) :
    PL w3 base p (ghNext m y) (nextSt A k y) := by
  have hne : ∀ g t, m.own g = some t → t ≠ (3, k) → t ≠ (2, 0) → w3.heap[g]? = w.heap[g]? := fun g t hg a1 a2 => hold g (h.lim g t hg).2
    (fun e => by subst e; rw [hv.own] at hg; exact a1 (Option.some.inj hg).symm) (fun e => by subst e; rw [h.mWo] at hg; exact a2 (Option.some.inj hg).symm)
  refine ⟨fun j t ht => ⟨(h.lim j t ht).1, Nat.lt_of_lt_of_le (h.lim j t ht).2 hs⟩, h.topo, by rw [hne _ _ h.topo (by simp) (by simp)]; exact h.top, h.mAo, map_keep intKey h.mA (hne _ _ h.mAo (by simp) (by simp)), h.mWo, ?_, fun j d hd => ?_, fun j hj => ?_, fun x => ?_, h.onceA, once_del h.onceW _⟩
  · unfold ghNext ints
    unfold ints at h1
    rwa [delK_map (Value.int .i64)] at h1
  · by_cases e : j = k
    · subst e
      have hd' : getK m.LA j = some d := hd
      rw [hb] at hd'
      obtain rfl := Option.some.inj hd'
      refine ⟨v', hv.own, ?_, ?_, ?_, fun g hg => hv.rown g (hro g hg)⟩
      · simp only [nextSt, upd_same]; omega
      · rw [h0]; simp [nextSt, upd_same]
      · rw [waiting_next, if_pos rfl, hwt]
        exact hrow.keep fun g hg => hne g _ (hv.rown g (hro g hg)) (by simp) (by simp)
    · obtain ⟨u, hu⟩ := h.lk j d hd
      have hk := hu.keep (w' := w3) fun g hg => hg.elim (fun hg => hne g _ hg (by simp [e]) (by simp)) (fun hg => hne g _ hg (by simp) (by simp))
      refine ⟨u, hk.own, ?_, ?_, ?_, hk.rown⟩
      · simp only [nextSt, upd_other _ _ e]; exact hk.pos
      · simp only [nextSt, upd_other _ _ e]; exact hk.heap
      · rw [waiting_next, if_neg e]; exact hk.row
  · have hj' : getK m.LA j = none := hj
    by_cases e : j = k
    · subst e; rw [hb] at hj'; cases hj'
    · simp only [nextSt, upd_other _ _ e]; exact h.no j hj'
  · show getK (delK m.LW y) x = _
    rw [getK_del h.onceW, waitsFor_next hI hwt, h.wt]

/-- what Leave answers -/
def LeaveBy (w : World) (base p : Nat) (m : Gh) (A : St) (x k : Int) (e : Ending) (w' : World) : Prop :=
  ∃ m', e = .returned (errVal (leaveFault A x k)) ∧ PL w' base p m' (leaveSt A x k) ∧ Keeps (fun g => m.own g ≠ none) w w' ∧ Grows w m m'
theorem leaveBy_no {w : World} {base p : Nat} {m : Gh} {A : St} (h : PL w base p m A) {x k z : Int} (hz : leaveFault A x k = z) (h0 : z ≠ 0) : LeaveBy w base p m A x k (.returned (errVal z)) w :=
  ⟨m, by rw [hz], by rw [leaveSt, if_pos (by rw [hz]; exact h0)]; exact h, Keeps.refl _ _, Grows.refl _ _⟩

set_option maxRecDepth 100000 in
set_option maxHeartbeats 4000000 in
theorem leave_bad {w : World} {base p : Nat} {m : Gh} {A : St} (h : PL w base p m A) (x k : Int) (hf : leaveFault A x k ≠ 0) :
    Calls Try.prog 10 #[.pointer (some ⟨p, 0, none⟩), .int .i64 x, .int .i64 k] w (LeaveBy w base p m A x k) := by
  have HW := hid (wrong_any h x k)
  by_cases h0 : fault A x k = 0
  · have hz : leaveFault A x k = 3 := by
      unfold leaveFault at hf ⊢
      rw [if_neg (by rw [h0]; simp)] at hf ⊢
      split
      · rfl
      · rename_i h1; rw [if_neg h1] at hf; exact absurd rfl hf
    have hcase : A.times k = 0 ∨ A.who k ≠ x := by
      unfold leaveFault at hz
      rw [if_neg (by rw [h0]; simp)] at hz
      by_cases h1 : A.times k = 0 ∨ A.who k ≠ x
      · exact h1
      · rw [if_neg h1] at hz; cases hz
    have HQ := hid (leaveBy_no h hz (by decide))
    have HE := hid (errVal_zero h0)
    obtain ⟨hc0, hc1⟩ := h.cells
    have hlk := look_all h k
    cases hb : getK m.LA k with
    | none =>
      rw [hb] at hlk
      simp only [Option.map_none] at hlk
      clear h hf hz hcase h0 hb
      go_enter Try.func10, Try.ntmps10
      go_wp2_with fail
      refine HW.out.mono ?_
      rintro e w1 ⟨rfl, rfl⟩
      rw [HE.out]
      go_wp2
      go_ret
      exact HQ.out
    | some b =>
      rw [hb] at hlk
      simp only [Option.map_some] at hlk
      obtain ⟨v, hv⟩ := h.lk k b hb
      obtain ⟨hb0, hb1, hb2⟩ := hv.cells
      have hne : A.who k ≠ x := hcase.resolve_left (by have := hv.pos; omega)
      have hne2 : (A.who k == x) = false := by simp [hne]
      have hne3 : (A.who k != x) = true := by simp [hne]
      clear h hf hz hcase h0 hb hv
      go_enter Try.func10, Try.ntmps10
      go_wp2_with fail
      refine HW.out.mono ?_
      rintro e w1 ⟨rfl, rfl⟩
      rw [HE.out]
      go_wp2
      go_ret
      exact HQ.out
  · have hz : leaveFault A x k = fault A x k := by unfold leaveFault; rw [if_pos h0]
    have HQ := hid (leaveBy_no h hz h0)
    have HE := hid (errVal_ne h0)
    clear h hf hz h0
    go_enter Try.func10, Try.ntmps10
    go_wp2_with fail
    refine HW.out.mono ?_
    rintro e w1 ⟨rfl, rfl⟩
    rw [HE.out]
    go_wp2
    go_ret
    rw [← HE.out]
    exact HQ.out
end Go.Proofs.Ytmfhmikihnjkcaa.locks
