/- Locks: Leave, all of it. Condition: not many calls came before. -/
import Derived.Test.YtmfhmikihnjkcaaLock6
namespace Go.Proofs.Ytmfhmikihnjkcaa.locks
open Go.RowKit Go.Proofs.Ytmfhmikihnjkcaa.lib Go.Proofs.Ytmfhmikihnjkcaa.maps Go.Proofs.Ytmfhmikihnjkcaa.errs

set_option maxRecDepth 100000 in
set_option maxHeartbeats 4000000 in
theorem leave_less {w : World} {base p c : Nat} {m : Gh} {A : St} (h : PL w base p m A) (hI : Inv A c) (hc : c ≤ 1000000) (x k : Int) (hf : leaveFault A x k = 0) (ht : 1 < A.times k) :
    Calls Try.prog 10 #[.pointer (some ⟨p, 0, none⟩), .int .i64 x, .int .i64 k] w (LeaveBy w base p m A x k) := by
  have HW := hid (wrong_any h x k)
  obtain ⟨hf0, hf1, hf2⟩ := leave_zero hf
  obtain ⟨b, hb⟩ : ∃ b, getK m.LA k = some b := by
    cases hb : getK m.LA k with
    | none => exact absurd (h.no k hb) hf1
    | some b => exact ⟨b, rfl⟩
  obtain ⟨hc0, hc1⟩ := h.cells
  obtain ⟨v, hv⟩ := h.lk k b hb
  obtain ⟨hb0, hb1, hb2⟩ := hv.cells
  have hbf := frozen_of hv.heap 1
  have hlk := look_all h k
  rw [hb] at hlk
  simp only [Option.map_some] at hlk
  have ht0 := hI.t0 k
  have hov : IntKind.i64.wrap (A.times k - 1) = A.times k - 1 := by rw [IntKind.wrap_i64]; omega
  have hpos : (0 : Int) < A.times k - 1 := by omega
  have HQ : Hid (LeaveBy w base p m A x k (.returned .nilIface) (w.setCell ⟨b, 1, none⟩ (.int .i64 (A.times k - 1)))) := hid
    ⟨m, by rw [hf]; rfl, by rw [leaveSt, if_neg (by rw [hf]; simp), if_pos ht]; exact h.less hb ht, (Keeps.set w b 1 _).mono (fun g _ hg => by rw [hg, hv.own]; simp), Grows.refl _ _⟩
  have HE := hid (errVal_zero hf0)
  have hd1 : (w.setCell ⟨b, 1, none⟩ (.int .i64 (A.times k - 1))).cell? ⟨b, 1, none⟩ = some (.int .i64 (A.times k - 1)) := by rw [cell_of (heap_set hv.heap 1 _)]; rfl
  generalize A.times k = T at hb1 hov HQ hpos hd1
  rw [hf2] at hb0
  clear h hf hf0 hf1 hf2 hv ht ht0 hb2 hb hI
  go_enter Try.func10, Try.ntmps10
  go_wp2_with fail
  refine HW.out.mono ?_
  rintro e w1 ⟨rfl, rfl⟩
  rw [HE.out]
  go_wp2
  go_ret
  exact HQ.out

set_option maxRecDepth 100000 in
set_option maxHeartbeats 4000000 in
theorem leave_gone {w : World} {base p : Nat} {m : Gh} {A : St} (h : PL w base p m A) (x k : Int) (hf : leaveFault A x k = 0) (ht : A.times k = 1) (hw : waiting A k = []) :
    Calls Try.prog 10 #[.pointer (some ⟨p, 0, none⟩), .int .i64 x, .int .i64 k] w (LeaveBy w base p m A x k) := by
  have HW := hid (wrong_any h x k)
  obtain ⟨hf0, hf1, hf2⟩ := leave_zero hf
  obtain ⟨b, hb⟩ : ∃ b, getK m.LA k = some b := by
    cases hb : getK m.LA k with
    | none => exact absurd (h.no k hb) hf1
    | some b => exact ⟨b, rfl⟩
  obtain ⟨hc0, hc1⟩ := h.cells
  obtain ⟨v, hv⟩ := h.lk k b hb
  obtain ⟨hb0, hb1, hb2⟩ := hv.cells
  have hbf := frozen_of hv.heap 1
  have hlk := look_all h k
  rw [hb] at hlk
  simp only [Option.map_some] at hlk
  have hrow := hv.row
  rw [hw] at hrow
  obtain ⟨a2, c2, hva, _, _⟩ := hrow.cells
  have hK := Keeps.set w b 1 (.int .i64 0)
  have hpb : p ≠ b := fun e => by have := hv.own; rw [← e, h.topo] at this; simp at this
  have hab : m.bA ≠ b := fun e => by have := hv.own; rw [← e, h.mAo] at this; simp at this
  have hp0 : (w.setCell ⟨b, 1, none⟩ (.int .i64 0)).cell? ⟨p, 0, none⟩ = some (.map (some m.bA)) := by
    rw [World.cell?_of_block (a := ⟨p, 0, none⟩) (hK.block p (h.lim _ _ h.topo).2 hpb)]; exact hc0
  have hA0 : MapIs intKey (w.setCell ⟨b, 1, none⟩ (.int .i64 0)) m.bA (ptrs m.LA) := map_keep intKey h.mA (hK.block _ (h.lim _ _ h.mAo).2 hab)
  obtain ⟨w2, hrun, h1, h2⟩ := run_delete (P := Try.prog) (E := intKey) Try.underlying46 Try.underlying3 0 hA0 k
  obtain ⟨hP, hKK⟩ := h.gone hb ht h1 h2
  have HQ : Hid (LeaveBy w base p m A x k (.returned .nilIface) w2) := hid
    ⟨ghGone m k, by rw [hf]; rfl, by rw [leaveSt, if_neg (by rw [hf]; simp), if_neg (by omega), hw]; exact hP, hKK, fun _ h => .inl h⟩
  have hrun2 : (Builtin.delete_ #[46, 3] 0 #[.map (some m.bA), .int .i64 k]).run Try.prog (w.setCell ⟨b, 1, none⟩ (.int .i64 0)) = .ok (.tuple #[]) w2 := hrun
  have HE := hid (errVal_zero hf0)
  have hd1 : (w.setCell ⟨b, 1, none⟩ (.int .i64 0)).cell? ⟨b, 1, none⟩ = some (.int .i64 0) := by rw [cell_of (heap_set hv.heap 1 _)]; rfl
  have hd2 : (w.setCell ⟨b, 1, none⟩ (.int .i64 0)).cell? ⟨b, 2, none⟩ = some (.slice a2 0 c2) := by
    rw [cell_of (heap_set hv.heap 1 (.int .i64 0)), hva]; rfl
  rw [ht] at hb1
  rw [hf2] at hb0
  clear h hf hf0 hf1 hf2 hv ht hb2 hb hP hKK h1 h2 hA0 hrun hK hrow hva hw
  go_enter Try.func10, Try.ntmps10
  go_wp2_with fail
  refine HW.out.mono ?_
  rintro e w1 ⟨rfl, rfl⟩
  rw [HE.out]
  go_wp2
  go_ret
  exact HQ.out

set_option maxRecDepth 100000 in
set_option maxHeartbeats 8000000 in
theorem leave_next {w : World} {base p c : Nat} {m : Gh} {A : St} (h : PL w base p m A) (hI : Inv A c) (x k : Int) (hf : leaveFault A x k = 0) (ht : A.times k = 1) {y : Int} {r : List Int} (hw : waiting A k = y :: r) :
    Calls Try.prog 10 #[.pointer (some ⟨p, 0, none⟩), .int .i64 x, .int .i64 k] w (LeaveBy w base p m A x k) := by
  have HW := hid (wrong_any h x k)
  obtain ⟨hf0, hf1, hf2⟩ := leave_zero hf
  obtain ⟨b, hb⟩ : ∃ b, getK m.LA k = some b := by
    cases hb : getK m.LA k with
    | none => exact absurd (h.no k hb) hf1
    | some b => exact ⟨b, rfl⟩
  obtain ⟨hc0, hc1⟩ := h.cells
  obtain ⟨v, hv⟩ := h.lk k b hb
  obtain ⟨hb0, hb1, hb2⟩ := hv.cells
  have hbf := frozen_of hv.heap 1
  have hlk := look_all h k
  rw [hb] at hlk
  simp only [Option.map_some] at hlk
  have hrow := hv.row
  have hvo := hv.rown
  rw [hw] at hrow
  obtain ⟨a2, n2, c2, hva⟩ := hrow.val
  rw [hva] at hrow hb2 hvo
  obtain ⟨g, off, hag, hn2, hnc, hgy, htail⟩ := OffOwn.tail (x := .int .i64 y) (xs := iv r) hrow
  subst hag
  have hgo := hvo g rfl
  have hgb : g ≠ b := fun e => by have := hv.own; rw [← e, hgo] at this; simp at this
  have hK := Keeps.set w b 1 (.int .i64 0)
  have hh1 := heap_set hv.heap 1 (.int .i64 0)
  have HH := hid h
  have HV := hid hv
  have HB := hid hb
  have HI := hid hI
  have HT : Hid (OffOwn w 3 (.slice (if c2 = 1 then some ⟨g, off, none⟩ else some ⟨g, off + 1, none⟩) (iv r).length (c2 - 1)) (iv r)) := hid (by
    by_cases h1 : c2 = 1
    · rw [if_pos h1] at htail ⊢; exact htail
    · rw [if_neg h1] at htail ⊢; simpa [Addr.add] using htail)
  have HTO : Hid (∀ j, (Value.slice (if c2 = 1 then some ⟨g, off, none⟩ else some ⟨g, off + 1, none⟩) (iv r).length (c2 - 1)).ownBlock = some j → v.ownBlock = some j) := hid (fun j hj => by
    rw [hva]
    by_cases h1 : c2 = 1
    · rw [if_pos h1] at hj; exact hj
    · rw [if_neg h1] at hj; exact hj)
  have HQ : Hid (∀ w3, PL w3 base p (ghNext m y) (nextSt A k y) → Keeps (fun g => m.own g ≠ none) w w3 → LeaveBy w base p m A x k (.returned .nilIface) w3) := hid fun w3 h3 h4 =>
    ⟨ghNext m y, by rw [hf]; rfl, by rw [leaveSt, if_neg (by rw [hf]; simp), if_neg (by omega), hw]; exact h3, h4, fun _ h => .inl h⟩
  have HWT := hid hw
  obtain ⟨W1, hW1⟩ : ∃ W1, w.setCell ⟨b, 1, none⟩ (.int .i64 0) = W1 := ⟨_, rfl⟩
  rw [hW1] at hK hh1
  rw [hva, hf2] at hh1
  have hh2 : W1.heap[b]? = some (.cells #[.int .i64 x, .int .i64 0, .slice (some ⟨g, off, none⟩) n2 c2] 52 (0, 0)) := hh1
  have e0 : W1.cell? ⟨b, 0, none⟩ = some (.int .i64 x) := by rw [cell_of hh2]; rfl
  have e1 : W1.cell? ⟨b, 1, none⟩ = some (.int .i64 0) := by rw [cell_of hh2]; rfl
  have e2 : W1.cell? ⟨b, 2, none⟩ = some (.slice (some ⟨g, off, none⟩) n2 c2) := by rw [cell_of hh2]; rfl
  have f0 := frozen_of hh2 0
  have f1 := frozen_of hh2 1
  have f2 := frozen_of hh2 2
  have eg : W1.cell? ⟨g, off, none⟩ = some (.int .i64 y) := by
    rw [World.cell?_of_block (a := ⟨g, off, none⟩) (hK.block g (h.lim _ _ hgo).2 hgb)]; exact hgy
  have hn3 : ((n2 : Int) == 0) = false := by simp; omega
  have hn4 : (0 : Int) < (n2 : Int) := by omega
  have hn5 : (1 : Int) ≤ (n2 : Int) := by omega
  rw [ht] at hb1
  rw [hf2] at hb0
  have HE := hid (errVal_zero hf0)
  have HK := hid hK
  have HH2 := hid hh2
  clear h hf hf0 hf1 hf2 hv ht hb2 hb hK hrow hva hh1 hI htail hvo hgo hgy hw hh2
  go_enter Try.func10, Try.ntmps10
  go_wp2_with fail
  refine HW.out.mono ?_
  rintro e w1 ⟨rfl, rfl⟩
  rw [HE.out]
  go_wp2
  go_region
  obtain ⟨V, hV⟩ : ∃ V, Value.slice (if c2 = 1 then some ⟨g, off, none⟩ else some ⟨g, off + 1, none⟩) (iv r).length (c2 - 1) = V := ⟨_, rfl⟩
  rw [hV]
  have HT2 := HT.out
  have HTO2 := HTO.out
  rw [hV] at HT2 HTO2
  clear HT HTO
  have hX : (((W1.setCell ⟨b, 0, none⟩ (.int .i64 y)).setCell ⟨b, 1, none⟩ (.int .i64 1)).setCell ⟨b, 2, none⟩ V).drew.heap[b]? = some (.cells #[.int .i64 y, .int .i64 1, V] 52 (0, 0)) := by
    have := heap_set (heap_set (heap_set HH2.out 0 (.int .i64 y)) 1 (.int .i64 1)) 2 V
    exact this
  have hKX := ((HK.out.trans (Keeps.set W1 b 0 (.int .i64 y))).trans (Keeps.set _ b 1 (.int .i64 1))).trans ((Keeps.set _ b 2 V).trans (Keeps.drew _ _))
  generalize (((W1.setCell ⟨b, 0, none⟩ (.int .i64 y)).setCell ⟨b, 1, none⟩ (.int .i64 1)).setCell ⟨b, 2, none⟩ V).drew = X at hX hKX ⊢
  have hpb : p ≠ b := fun e => by have := HV.out.own; rw [← e, HH.out.topo] at this; simp at this
  have hwb : m.bW ≠ b := fun e => by have := HV.out.own; rw [← e, HH.out.mWo] at this; simp at this
  have hp1 : X.cell? ⟨p, 1, none⟩ = some (.map (some m.bW)) := by
    rw [World.cell?_of_block (a := ⟨p, 1, none⟩) (hKX.block p (HH.out.lim _ _ HH.out.topo).2 hpb)]; exact hc1
  have hx0 : X.cell? ⟨b, 0, none⟩ = some (.int .i64 y) := by rw [cell_of hX]; rfl
  have hW0 : MapIs intKey X.drew m.bW (ints m.LW) := map_keep intKey HH.out.mW (hKX.block _ (HH.out.lim _ _ HH.out.mWo).2 hwb)
  obtain ⟨w3, hrun, h1, h2⟩ := run_delete (P := Try.prog) (E := intKey) Try.underlying47 Try.underlying3 0 hW0 y
  have hrun2 : (Builtin.delete_ #[47, 3] 0 #[.map (some m.bW), .int .i64 y]).run Try.prog X.drew = .ok (.tuple #[]) w3 := hrun
  have hold : ∀ g, g < w.heap.size → g ≠ b → g ≠ m.bW → w3.heap[g]? = w.heap[g]? := fun g hg a1 a2 => by
    exact (h2.block g (Nat.lt_of_lt_of_le hg hKX.size) (fun e => a2 (Option.some.inj e))).trans (hKX.block g hg a1)
  have hs3 : w.heap.size ≤ w3.heap.size := Nat.le_trans hKX.size h2.size
  have h3b : w3.heap[b]? = some (.cells #[.int .i64 y, .int .i64 1, V] 52 (0, 0)) := by
    exact (h2.block b (Nat.lt_of_lt_of_le (HH.out.lim _ _ HV.out.own).2 hKX.size) (fun e => hwb (Option.some.inj e).symm)).trans hX
  have HP := hid (HH.out.next HI.out HB.out HV.out HWT.out h3b HT2 HTO2 h1 hs3 hold)
  have HKK : Hid (Keeps (fun g => m.own g ≠ none) w w3) := hid ⟨h2.os.trans hKX.os, h2.tape.trans hKX.tape, h2.output.trans hKX.output, hs3, fun g hg hF => hold g hg (fun e => hF (by rw [e, HV.out.own]; simp)) (fun e => hF (by rw [e, HH.out.mWo]; simp))⟩
  clear hold hs3 h3b h1 h2 hrun hW0 hKX hX HT2 HTO2 hV e0 e1 e2 f0 f1 f2 eg hb0 hb1 hbf hlk hW1 hc0 hc1
  go_wp2
  go_region
  all_goals go_wp2
  all_goals go_ret
  all_goals exact HQ.out _ HP.out HKK.out

theorem leave_any {w : World} {base p c : Nat} {m : Gh} {A : St} (h : PL w base p m A) (hI : Inv A c) (hc : c ≤ 1000000) (x k : Int) :
    Calls Try.prog 10 #[.pointer (some ⟨p, 0, none⟩), .int .i64 x, .int .i64 k] w (LeaveBy w base p m A x k) := by
  by_cases hf : leaveFault A x k = 0
  · by_cases ht : 1 < A.times k
    · exact leave_less h hI hc x k hf ht
    · have ht1 : A.times k = 1 := by have := (leave_zero hf).2.1; have := hI.t0 k; omega
      cases hw : waiting A k with
      | nil => exact leave_gone h x k hf ht1 hw
      | cons y r => exact leave_next h hI x k hf ht1 hw
  · exact leave_bad h x k hf
end Go.Proofs.Ytmfhmikihnjkcaa.locks
