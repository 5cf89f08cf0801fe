/- Locks: Enter. Condition: not many calls came before. -/
import Derived.Test.YtmfhmikihnjkcaaDoorLock3
namespace Go.Proofs.YtmfhmikihnjkcaaDoor.locks
open Go.RowKit Go.Proofs.YtmfhmikihnjkcaaDoor.lib Go.Proofs.YtmfhmikihnjkcaaDoor.maps Go.Proofs.YtmfhmikihnjkcaaDoor.errs

abbrev lkT : TypeId := 42
def ghFresh (m : Gh) (k : Int) (b : Nat) : Gh := { m with own := own1 m.own b (3, k), LA := setK m.LA k b }
theorem fresh_grows (w : World) (m : Gh) (k : Int) : Grows w m (ghFresh m k w.heap.size) := fun j hj => by
  by_cases e : j = w.heap.size
  · exact .inr (by omega)
  · exact .inl (by rw [← own1_other (f := m.own) (t := (3, k)) e]; exact hj)
theorem PL.fresh {w W1 : World} {base p c : Nat} {m : Gh} {A : St} (h : PL w base p m A) (hI : Inv A c) {x k : Int} (hb : getK m.LA k = none)
    (h1 : MapIs intKey W1 m.bA (setK (ptrs m.LA) k (.pointer (some ⟨w.heap.size, 0, none⟩)))) (h2 : (w.alloc (.cells #[.int .i64 x, .int .i64 0, .slice none 0 0] 42)).grownBy W1 (some m.bA)) :
    PL (W1.setCell ⟨w.heap.size, 1, none⟩ (.int .i64 1)) base p (ghFresh m k w.heap.size) (takeSt A x k) ∧ W1.heap[w.heap.size]? = some (.cells #[.int .i64 x, .int .i64 0, .slice none 0 0] 42 (0, 0)) ∧
      Keeps (fun g => m.own g ≠ none) w (W1.setCell ⟨w.heap.size, 1, none⟩ (.int .i64 1)) := by
  have hA := (h.lim _ _ h.mAo).2
  have ht0 := h.no k hb
  have hb1 : W1.heap[w.heap.size]? = some (.cells #[.int .i64 x, .int .i64 0, .slice none 0 0] 42 (0, 0)) := by
    rw [h2.block _ (by simp) (by intro e; have := Option.some.inj e; omega)]
    exact heap_alloc_new w _
  have hs1 : w.heap.size < W1.heap.size := Nat.lt_of_lt_of_le (by simp) h2.size
  have hK := Keeps.set W1 w.heap.size 1 (.int .i64 1)
  have hold : ∀ g, g < w.heap.size → g ≠ m.bA → (W1.setCell ⟨w.heap.size, 1, none⟩ (.int .i64 1)).heap[g]? = w.heap[g]? := fun g hg hne => by
    rw [hK.block g (by omega) (by omega), h2.block g (by simp; omega) (fun e => hne (Option.some.inj e)), Below.heap_alloc _ _ _ hg]
  have hkeep : ∀ g t, m.own g = some t → t ≠ (1, 0) → (W1.setCell ⟨w.heap.size, 1, none⟩ (.int .i64 1)).heap[g]? = w.heap[g]? := fun g t hg ht => hold g (h.lim g t hg).2 fun e => by
    subst e; rw [h.mAo] at hg; exact ht (Option.some.inj hg).symm
  have hown : ∀ {g : Nat} {t : Nat × Int}, m.own g = some t → own1 m.own w.heap.size (3, k) g = some t := fun {g t} hg => by
    rw [own1_other (by have := (h.lim g t hg).2; omega), hg]
  refine ⟨⟨fun j t ht => ?_, hown h.topo, by rw [hkeep _ _ h.topo (by simp)]; exact h.top, hown h.mAo, ?_, hown h.mWo, map_keep intKey h.mW (hkeep _ _ h.mWo (by simp)), fun j d hd => ?_, fun j hj => ?_, h.wt, once_set h.onceA _ _, h.onceW⟩, hb1, ?_⟩
  · unfold ghFresh own1 at ht
    simp only at ht
    split at ht
    · subst_vars; exact ⟨by have := (h.lim _ _ h.topo); omega, Nat.lt_of_lt_of_le hs1 hK.size⟩
    · have := h.lim j t ht; exact ⟨this.1, by have := hK.size; omega⟩
  · have := map_keep intKey h1 (hK.block m.bA (by omega) (by omega))
    unfold ghFresh ptrs
    unfold ptrs at this
    rwa [setK_map (fun b : Nat => Value.pointer (some ⟨b, 0, none⟩))] at this
  · have hd' : getK (setK m.LA k w.heap.size) j = some d := hd
    rw [getK_set] at hd'
    by_cases e : j = k
    · subst e
      rw [if_pos rfl] at hd'
      obtain rfl := Option.some.inj hd'
      refine ⟨.slice none 0 0, own1_same _ _ _, ?_, ?_, ?_, fun g hg => by cases hg⟩
      · simp only [takeSt, upd_same]; omega
      · rw [heap_set hb1]
        simp [takeSt, upd_same, ht0]
      · rw [waiting_take, waiting_zero hI ht0]; exact OffOwn.nil _ _
    · rw [if_neg e] at hd'
      obtain ⟨u, hu⟩ := h.lk j d hd'
      refine ⟨u, hown hu.own, ?_, ?_, hu.row.keep fun g hg => hkeep g _ (hu.rown g hg) (by simp), fun g hg => hown (hu.rown g hg)⟩
      · simp only [takeSt, upd_other _ _ e]; exact hu.pos
      · rw [hkeep _ _ hu.own (by simp)]
        simp only [takeSt, upd_other _ _ e]; exact hu.heap
  · have hj' : getK (setK m.LA k w.heap.size) j = none := hj
    rw [getK_set] at hj'
    by_cases e : j = k
    · rw [if_pos e] at hj'; cases hj'
    · rw [if_neg e] at hj'
      simp only [takeSt, upd_other _ _ e]; exact h.no j hj'
  · refine ⟨hK.os.trans h2.os, hK.tape.trans h2.tape, hK.output.trans h2.output, by have := hK.size; omega, fun g hg hF => hold g hg fun e => hF (by rw [e, h.mAo]; simp)⟩

/-- the blocks of a list that has grown are that thing's -/
def ownRow (f : Nat → Option (Nat × Int)) (v : Value) (k : Int) : Nat → Option (Nat × Int) := fun j => if v.ownBlock = some j then some (4, k) else f j
def ghWait (m : Gh) (v : Value) (x k : Int) : Gh := { m with own := ownRow m.own v k, LW := setK m.LW x k }
theorem wait_grows {w : World} {m : Gh} {v v' : Value} (x k : Int) (hv : ∀ g, v.ownBlock = some g → m.own g = some (4, k)) (h3 : v'.ownBlock = v.ownBlock ∨ ∃ g, v'.ownBlock = some g ∧ w.heap.size ≤ g) : Grows w m (ghWait m v' x k) := fun j hj => by
  by_cases e : v'.ownBlock = some j
  · rcases h3 with h3 | ⟨g, h3, h4⟩
    · exact .inl (by rw [hv j (by rw [← h3]; exact e)]; simp)
    · rw [h3] at e; obtain rfl := Option.some.inj e; exact .inr h4
  · refine .inl ?_
    have : (ghWait m v' x k).own j = m.own j := by unfold ghWait ownRow; simp only; rw [if_neg e]
    rw [← this]; exact hj
theorem PL.wait {w w1 w3 : World} {base p c : Nat} {m : Gh} {A : St} (h : PL w base p m A) (_hI : Inv A c) {x k : Int} {b : Nat} {v v' : Value} (hb : getK m.LA k = some b) (hv : Lk w m A k b v) (hf : fault A x k = 0)
    (h1 : OffOwn w1 3 v' (iv (waiting A k) ++ [.int .i64 x])) (h2 : w.grownBy w1 v.ownBlock) (h3 : v'.ownBlock = v.ownBlock ∨ ∃ g, v'.ownBlock = some g ∧ w.heap.size ≤ g)
    (h4 : MapIs intKey w3 m.bW (setK (ints m.LW) x (.int .i64 k))) (h5 : (w1.setCell ⟨b, 2, none⟩ v').grownBy w3 (some m.bW)) :
    PL w3 base p (ghWait m v' x k) (waitSt A x k) ∧ Keeps (fun g => m.own g ≠ none) w w3 := by
  obtain ⟨_, _, hwn⟩ := fault_zero hf
  have hbl := (h.lim _ _ hv.own).2
  have hvb : ∀ g, v.ownBlock = some g → m.own g = some (4, k) := hv.rown
  have hK := Keeps.set w1 b 2 v'
  have hs : w.heap.size ≤ w3.heap.size := Nat.le_trans h2.size (Nat.le_trans hK.size h5.size)
  -- what is old and neither the row's, the block's nor the map's
  have hold : ∀ g, g < w.heap.size → m.own g ≠ some (4, k) → g ≠ b → g ≠ m.bW → w3.heap[g]? = w.heap[g]? := fun g hg h6 h7 h8 => by
    rw [h5.block g (by have := hK.size; have := h2.size; omega) (fun e => h8 (Option.some.inj e)), hK.block g (by have := h2.size; omega) h7, h2.block g hg (fun e => h6 (hvb g e.symm))]
  have hkeep : ∀ g t, m.own g = some t → t ≠ (4, k) → t ≠ (3, k) → t ≠ (2, 0) → w3.heap[g]? = w.heap[g]? := fun g t hg a1 a2 a3 => hold g (h.lim g t hg).2 (by rw [hg]; simpa using a1)
    (fun e => by subst e; rw [hv.own] at hg; exact a2 (Option.some.inj hg).symm) (fun e => by subst e; rw [h.mWo] at hg; exact a3 (Option.some.inj hg).symm)
  have hgo : ∀ g, v'.ownBlock = some g → m.own g = some (4, k) ∨ w.heap.size ≤ g := fun g hg => by
    rcases h3 with h3 | ⟨g', h3, h6⟩
    · rw [h3] at hg; exact .inl (hvb g hg)
    · rw [h3] at hg; obtain rfl := Option.some.inj hg; exact .inr h6
  have hown : ∀ {g : Nat} {t : Nat × Int}, m.own g = some t → ownRow m.own v' k g = some t := fun {g t} hg => by
    unfold ownRow
    split
    · rename_i e
      rcases hgo g e with h6 | h6
      · rw [← h6, hg]
      · have := (h.lim g t hg).2; omega
    · exact hg
  have hbb : w3.heap[b]? = some (.cells #[.int .i64 (A.who k), .int .i64 (A.times k), v'] 42 (0, 0)) := by
    have hb1 : w1.heap[b]? = w.heap[b]? := h2.block b hbl fun e => by have := hvb b e.symm; rw [hv.own] at this; simp at this
    rw [h5.block b (by have := hK.size; have := h2.size; omega) (fun e => by have := Option.some.inj e; subst this; have := hv.own; rw [h.mWo] at this; simp at this), heap_set (by rw [hb1]; exact hv.heap)]
    simp
  have hrow : ∀ g, v'.ownBlock = some g → w3.heap[g]? = w1.heap[g]? := fun g hg => by
    have hlt := h1.lt hg
    have hgb : g ≠ b := fun e => by
      rcases hgo g hg with h6 | h6
      · rw [e, hv.own] at h6; simp at h6
      · omega
    have hgw : g ≠ m.bW := fun e => by
      rcases hgo g hg with h6 | h6
      · rw [e, h.mWo] at h6; simp at h6
      · have := (h.lim _ _ h.mWo).2; omega
    rw [h5.block g (by have := hK.size; omega) (fun e => hgw (Option.some.inj e)), hK.block g hlt hgb]
  refine ⟨⟨fun j t ht => ?_, hown h.topo, by rw [hkeep _ _ h.topo (by simp) (by simp) (by simp)]; exact h.top, hown h.mAo, map_keep intKey h.mA (hkeep _ _ h.mAo (by simp) (by simp) (by simp)), hown h.mWo, ?_, fun j d hd => ?_, h.no, fun y => ?_, h.onceA, once_set h.onceW _ _⟩, ?_⟩
  · unfold ghWait ownRow at ht
    simp only at ht
    split at ht
    · rename_i e
      have h6 := h1.lt e
      have h7 := hK.size
      have h8 := h5.size
      refine ⟨?_, by omega⟩
      rcases hgo j e with h9 | h9
      · exact (h.lim j _ h9).1
      · have := (h.lim _ _ h.topo); omega
    · have := h.lim j t ht; exact ⟨this.1, by omega⟩
  · have := h4
    unfold ghWait ints
    unfold ints at this
    rwa [setK_map (Value.int .i64)] at this
  · by_cases e : j = k
    · subst e
      have hd' : getK m.LA j = some d := hd
      rw [hb] at hd'
      obtain rfl := Option.some.inj hd'
      refine ⟨v', hown hv.own, hv.pos, hbb, ?_, fun g hg => by show ownRow m.own v' j g = _; unfold ownRow; rw [if_pos hg]⟩
      rw [waiting_wait, if_pos rfl]
      unfold iv
      rw [List.map_append]
      exact h1.keep hrow
    · obtain ⟨u, hu⟩ := h.lk j d hd
      refine ⟨u, hown hu.own, hu.pos, ?_, ?_, fun g hg => hown (hu.rown g hg)⟩
      · rw [hkeep _ _ hu.own (by simp) (by simp [e]) (by simp)]; exact hu.heap
      · rw [waiting_wait, if_neg e]
        exact hu.row.keep fun g hg => hkeep g _ (hu.rown g hg) (by simp [e]) (by simp) (by simp)
  · show getK (setK m.LW x k) y = _
    rw [getK_set, waitsFor_wait hwn, h.wt]
  · exact ⟨h5.os.trans (hK.os.trans h2.os), h5.tape.trans (hK.tape.trans h2.tape), h5.output.trans (hK.output.trans h2.output), hs, fun g hg hF => hold g hg (fun e => hF (by rw [e]; simp)) (fun e => hF (by rw [e, hv.own]; simp)) (fun e => hF (by rw [e, h.mWo]; simp))⟩

theorem infoInt : (Tryd.prog.info? 3).map (fun i => (i.zero, i.size, i.bytes)) = some (some (.int .i64 0), 1, 8) := by kernel_rfl

/-- what Enter answers -/
def EnterBy (w : World) (base p : Nat) (m : Gh) (A : St) (x k : Int) (e : Ending) (w' : World) : Prop :=
  ∃ m', e = .returned (.tuple #[.bool (enterOk A x k), errVal (fault A x k)]) ∧ PL w' base p m' (enterSt A x k) ∧ Keeps (fun g => m.own g ≠ none) w w' ∧ Grows w m m'

set_option maxRecDepth 100000 in
set_option maxHeartbeats 4000000 in
theorem enter_bad {w : World} {base p : Nat} {m : Gh} {A : St} (h : PL w base p m A) (x k : Int) (hf : fault A x k ≠ 0) :
    Calls Tryd.prog 6 #[.pointer (some ⟨p, 0, none⟩), .int .i64 x, .int .i64 k] w (EnterBy w base p m A x k) := by
  have HW := hid (wrong_any h x k)
  have HQ : Hid (∀ e, e = .returned (.tuple #[.bool false, errVal (fault A x k)]) → EnterBy w base p m A x k e w) := hid (fun e he => ⟨m, by rw [he]; simp [enterOk, hf], by rw [enterSt, if_pos hf]; exact h, Keeps.refl _ _, Grows.refl _ _⟩)
  have HE := hid (errVal_ne hf)
  clear h hf
  go_enter Tryd.func6, Tryd.ntmps6
  go_wp2_with fail
  refine HW.out.mono ?_
  rintro e w1 ⟨rfl, rfl⟩
  rw [HE.out]
  go_wp2
  go_ret2
  exact HQ.out _ (by rw [HE.out]; rfl)

set_option maxRecDepth 100000 in
set_option maxHeartbeats 4000000 in
theorem enter_more {w : World} {base p c : Nat} {m : Gh} {A : St} (h : PL w base p m A) (hI : Inv A c) (hc : c ≤ 1000000) (x k : Int) (hf : fault A x k = 0) {b : Nat} (hb : getK m.LA k = some b) (hx : A.who k = x) :
    Calls Tryd.prog 6 #[.pointer (some ⟨p, 0, none⟩), .int .i64 x, .int .i64 k] w (EnterBy w base p m A x k) := by
  have HW := hid (wrong_any h x k)
  obtain ⟨hc0, hc1⟩ := h.cells
  obtain ⟨v, hv⟩ := h.lk k b hb
  obtain ⟨hb0, hb1, hb2⟩ := hv.cells
  have hbf := frozen_of hv.heap 1
  have hlk := look_all h k
  rw [hb] at hlk
  simp only [Option.map_some] at hlk
  have ht := hI.t0 k
  have hov : IntKind.i64.wrap (A.times k + 1) = A.times k + 1 := by rw [IntKind.wrap_i64]; omega
  have HQ : Hid (∀ e, e = .returned (.tuple #[.bool true, .nilIface]) → EnterBy w base p m A x k e (w.setCell ⟨b, 1, none⟩ (.int .i64 (A.times k + 1)))) := hid (fun e he =>
    ⟨m, by rw [he]; simp [enterOk, hf, held, hx, errVal], by rw [enterSt, if_neg (by rw [hf]; simp), if_neg (by simp [held, hx])]; exact h.more hb hx, (Keeps.set w b 1 _).mono (fun g _ hg => by rw [hg, hv.own]; simp), Grows.refl _ _⟩)
  have HE := hid (errVal_zero hf)
  generalize A.times k = T at hb1 hov HQ
  rw [hx] at hb0
  clear h hf hv ht hb2 hx hb hI
  go_enter Tryd.func6, Tryd.ntmps6
  go_wp2_with fail
  refine HW.out.mono ?_
  rintro e w1 ⟨rfl, rfl⟩
  rw [HE.out]
  go_wp2
  go_ret2
  exact HQ.out _ rfl
end Go.Proofs.YtmfhmikihnjkcaaDoor.locks
