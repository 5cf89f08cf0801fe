/- Locks: Enter, all of it. Condition: not many calls came before. -/
import Derived.Test.YtmfhmikihnjkcaaDoorLock4
namespace Go.Proofs.YtmfhmikihnjkcaaDoor.locks
open Go.RowKit Go.Proofs.YtmfhmikihnjkcaaDoor.lib Go.Proofs.YtmfhmikihnjkcaaDoor.maps Go.Proofs.YtmfhmikihnjkcaaDoor.errs

set_option maxRecDepth 100000 in
set_option maxHeartbeats 4000000 in
theorem enter_new {w : World} {base p c : Nat} {m : Gh} {A : St} (h : PL w base p m A) (hI : Inv A c) (x k : Int) (hf : fault A x k = 0) (hb : getK m.LA k = none) :
    Calls Tryd.prog 6 #[.pointer (some ⟨p, 0, none⟩), .int .i64 x, .int .i64 k] w (EnterBy w base p m A x k) := by
  have HW := hid (wrong_any h x k)
  obtain ⟨hc0, hc1⟩ := h.cells
  have hlk := look_all h k
  rw [hb] at hlk
  simp only [Option.map_none] at hlk
  have hpl := (h.lim _ _ h.topo).2
  have hc0' : (w.alloc (.cells #[.int .i64 x, .int .i64 0, .slice none 0 0] 42)).cell? ⟨p, 0, none⟩ = some (.map (some m.bA)) := by rw [World.cell?_alloc_past _ _ _ hpl]; exact hc0
  have hA0 : MapIs intKey (w.alloc (.cells #[.int .i64 x, .int .i64 0, .slice none 0 0] 42)) m.bA (ptrs m.LA) := map_keep intKey h.mA (Below.heap_alloc _ _ _ (h.lim _ _ h.mAo).2)
  obtain ⟨W1, hrun, h1, h2⟩ := run_update (P := Tryd.prog) (E := intKey) Tryd.underlying35 Tryd.underlying3 hA0 k (.pointer (some ⟨w.heap.size, 0, none⟩))
  obtain ⟨hP, hB, hK⟩ := h.fresh hI hb h1 h2
  have hd0 : W1.cell? ⟨w.heap.size, 0, none⟩ = some (.int .i64 x) := by rw [cell_of hB]; rfl
  have hd1 : W1.cell? ⟨w.heap.size, 1, none⟩ = some (.int .i64 0) := by rw [cell_of hB]; rfl
  have hd2 := frozen_of hB 1
  have ht0 := h.no k hb
  have HQ : Hid (∀ e, e = .returned (.tuple #[.bool true, .nilIface]) → EnterBy w base p m A x k e (W1.setCell ⟨w.heap.size, 1, none⟩ (.int .i64 1))) := hid (fun e he =>
    ⟨_, by rw [he]; simp [enterOk, hf, held, ht0, errVal], by rw [enterSt, if_neg (by rw [hf]; simp), if_neg (by simp [held, ht0])]; exact hP, hK, fresh_grows w m k⟩)
  have HE := hid (errVal_zero hf)
  have hrun2 : (Instr.mapUpdate 35 (.map (some m.bA)) (.int .i64 k) (.pointer (some ⟨w.heap.size, 0, none⟩))).run Tryd.prog (w.alloc (.cells #[.int .i64 x, .int .i64 0, .slice none 0 0] 42)) = .ok () W1 := hrun
  clear h hf ht0 hb hI hP hB hK h1 h2 hA0 hrun
  go_enter Tryd.func6, Tryd.ntmps6
  go_wp2_with fail
  refine HW.out.mono ?_
  rintro e w1 ⟨rfl, rfl⟩
  rw [HE.out]
  go_wp2
  go_ret2
  exact HQ.out _ rfl

set_option maxRecDepth 100000 in
set_option maxHeartbeats 4000000 in
theorem enter_wait {w : World} {base p c : Nat} {m : Gh} {A : St} (h : PL w base p m A) (hI : Inv A c) (hc : c ≤ 1000000) (x k : Int) (hf : fault A x k = 0) {b : Nat} (hb : getK m.LA k = some b) (hx : ¬ A.who k = x) :
    Calls Tryd.prog 6 #[.pointer (some ⟨p, 0, none⟩), .int .i64 x, .int .i64 k] w (EnterBy w base p m A x k) := by
  have HW := hid (wrong_any h x k)
  have HH := hid h
  have HI := hid hI
  obtain ⟨hc0, hc1⟩ := h.cells
  obtain ⟨v, hv⟩ := h.lk k b hb
  have HV := hid hv
  obtain ⟨hb0, hb1, hb2⟩ := hv.cells
  have hbf := frozen_of hv.heap 2
  have hlk := look_all h k
  rw [hb] at hlk
  simp only [Option.map_some] at hlk
  have hlen := waiting_len hI k
  have HF := hid hf
  have HB := hid hb
  have HQ2 : Hid (∀ (e : Ending) (w3 : World) (m' : Gh), e = .returned (.tuple #[.bool false, .nilIface]) → PL w3 base p m' (waitSt A x k) → Keeps (fun g => m.own g ≠ none) w w3 → Grows w m m' → EnterBy w base p m A x k e w3) := hid (fun e w3 m' he hp hk hgr =>
    ⟨m', by rw [he]; simp [enterOk, hf, held, hx, hv.pos, errVal], by rw [enterSt, if_neg (by rw [hf]; simp), if_pos ⟨hv.pos, hx⟩]; exact hp, hk, hgr⟩)
  have HE := hid (errVal_zero hf)
  have hne : (A.who k == x) = false := by simp [hx]
  have hne2 : (A.who k != x) = true := by simp [hx]
  have HR := hid hv.row
  have HRL : Hid ((iv (waiting A k)).length = (waiting A k).length) := hid (by simp [iv])
  have hbl := (h.lim _ _ hv.own).2
  have hpl := (h.lim _ _ h.topo).2
  have HO := hid hv.own
  clear h hf hv hb hI
  go_enter Tryd.func6, Tryd.ntmps6
  go_wp2_with fail
  refine HW.out.mono ?_
  rintro e w1 ⟨rfl, rfl⟩
  rw [HE.out]
  go_wp2_with (at_builtin; refine wpList_append_off _ _ rfl _ _ 29 rfl 3 (.int .i64 0) 8 _ Tryd.underlying29 infoInt rfl v _ _ HR.out rfl rfl rfl rfl rfl ?_ ?_ ?_)
  all_goals first | (intro v' w' ho hg hat) | (rw [HRL.out]; unfold maxLen; omega) | (rw [HRL.out]; omega) | skip
  have hbv : ∀ g t, m.own g = some t → t ≠ (4, k) → w'.heap[g]? = w.heap[g]? := fun g t hgo ht => hg.block g (HH.out.lim g t hgo).2 fun e => by
    have := HV.out.rown g e.symm; rw [hgo] at this; exact ht (Option.some.inj this)
  have hbh : w'.heap[b]? = some (.cells #[.int .i64 (A.who k), .int .i64 (A.times k), v] 42 (0, 0)) := (hbv b _ HO.out (by simp)).trans HV.out.heap
  have hph : w'.heap[p]? = some (.cells #[.map (some m.bA), .map (some m.bW)] 38 (0, 0)) := (hbv p _ HH.out.topo (by simp)).trans HH.out.top
  have hpb : p ≠ b := fun e => by have := HO.out; rw [← e, HH.out.topo] at this; simp at this
  have hwb : m.bW ≠ b := fun e => by have := HO.out; rw [← e, HH.out.mWo] at this; simp at this
  have hb2' : w'.cell? ⟨b, 2, none⟩ = some v := by rw [cell_of hbh]; rfl
  have hbf' := frozen_of hbh 2
  have hK := Keeps.set w' b 2 v'
  have hp1 : (w'.setCell ⟨b, 2, none⟩ v').cell? ⟨p, 1, none⟩ = some (.map (some m.bW)) := by
    rw [World.cell?_of_block (a := ⟨p, 1, none⟩) (hK.block p (Nat.lt_of_lt_of_le hpl hg.size) hpb), cell_of hph]; rfl
  have hW0 : MapIs intKey (w'.setCell ⟨b, 2, none⟩ v') m.bW (ints m.LW) := map_keep intKey HH.out.mW ((hK.block m.bW (Nat.lt_of_lt_of_le (HH.out.lim _ _ HH.out.mWo).2 hg.size) hwb).trans (hbv _ _ HH.out.mWo (by simp)))
  obtain ⟨w3, hrun, h4, h5⟩ := run_update (P := Tryd.prog) (E := intKey) Tryd.underlying36 Tryd.underlying3 hW0 x (.int .i64 k)
  have hrun2 : (Instr.mapUpdate 36 (.map (some m.bW)) (.int .i64 x) (.int .i64 k)).run Tryd.prog (w'.setCell ⟨b, 2, none⟩ v') = .ok () w3 := hrun
  obtain ⟨hP, hKK⟩ := HH.out.wait HI.out HB.out HV.out HF.out ho hg hat h4 h5
  have HP := hid hP
  have HKK := hid hKK
  have HGR := hid (wait_grows x k HV.out.rown hat)
  obtain ⟨a', n', c', hva⟩ := ho.val
  subst hva
  clear hP hKK h4 h5 hrun hW0 hK hbh hph ho hg hat hbv hb2 hbf hb0 hb1 hlk hc0 hc1 hlen hx
  go_wp2
  go_ret2
  exact HQ2.out _ _ _ rfl HP.out HKK.out HGR.out

theorem enter_any {w : World} {base p c : Nat} {m : Gh} {A : St} (h : PL w base p m A) (hI : Inv A c) (hc : c ≤ 1000000) (x k : Int) :
    Calls Tryd.prog 6 #[.pointer (some ⟨p, 0, none⟩), .int .i64 x, .int .i64 k] w (EnterBy w base p m A x k) := by
  by_cases hf : fault A x k = 0
  · cases hb : getK m.LA k with
    | none => exact enter_new h hI x k hf hb
    | some b =>
      by_cases hx : A.who k = x
      · exact enter_more h hI hc x k hf hb hx
      · exact enter_wait h hI hc x k hf hb hx
  · exact enter_bad h x k hf
end Go.Proofs.YtmfhmikihnjkcaaDoor.locks
