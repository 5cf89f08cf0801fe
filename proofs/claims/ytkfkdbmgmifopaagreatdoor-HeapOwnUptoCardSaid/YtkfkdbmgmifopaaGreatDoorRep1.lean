/- slices.Repeat of one text. Condition: at most ten times. -/
import Derived.Test.YtkfkdbmgmifopaaGreatDoorWldH
import Derived.Laws.CopyOwn
import Derived.Laws.CopyRow
set_option linter.unusedSimpArgs false
set_option linter.unusedVariables false
namespace Go.Proofs.YtkfkdbmgmifopaaGreatDoor.worlds
open Go.RowKit Go.Proofs.YtkfkdbmgmifopaaGreatDoor.lib Go.Proofs.YtkfkdbmgmifopaaGreatDoor.maps Go.Proofs.YtkfkdbmgmifopaaGreatDoor.classes Go.Proofs.YtkfkdbmgmifopaaGreatDoor.errs

/-- 'copy' into a row of the walk's own, as one step of a region that draws its order -/
theorem step_copy {P : Program} {w : World} {ops : Array Oper} {o : Oper} {a : Act} {K : Act → World → Prop} {Q : Exit → Act → World → Prop} {E : Prop} (hgd : o.guard = none) (d s : Operand) (dT sT : TypeId)
    (ho : o.op = .call { callee := .builtin .copy, args := #[d, s], argTypes := #[dT, sT] }) (elem : TypeId) (hu : P.underlying dT = some (.slice elem)) (hsz : (P.info? elem).map (·.size) = some 1)
    (g off dLen dCap : Nat) (ad : Addr) (sLen sCap : Nat) (hd : a.eval d = .slice (some ⟨g, off, none⟩) dLen dCap) (hs : a.eval s = .slice (some ad) sLen sCap)
    (cur : Array Value) (t : TypeId) (hg : w.heap[g]? = some (.cells cur t (0, 0))) (cs : List Value) (hn : cs.length = Nat.min sLen dLen)
    (hsrc : ∀ j v, cs[j]? = some v → w.cell? (ad.add j) = some v) (hfit : off + cs.length ≤ cur.size) (h1 : ∀ v ∈ cs, v.oneCell' = true)
    (h : K (a.put o.dst (goInt cs.length)) (w.setRow g (cur.toList.take off ++ (cs ++ cur.toList.drop (off + cs.length))).toArray)) :
    if Region.wanted o (yielded ops a.tmps) = true then Oper.wp P o a w K Q else E := by
  have hw : Region.wanted o (yielded ops a.tmps) = true := by simp [Region.wanted, hgd]
  rw [if_pos hw]
  have hrun := run_copy_row (P := P) w dT sT o.type elem g off dLen dCap ad sLen sCap cur t cs hu hsz hg hn hsrc hfit h1
  unfold Oper.wp
  simp [execOp, ho, resolve, invoke, builtin, hd, hs, hrun, Result.andThen]
  simpa [Oper.upon] using h

/-- the row's first k cells hold the text -/
structure RRow (w wr : World) (c : Nat) (x : ByteArray) (k : Nat) : Prop where
  below : Below w.heap.size w wr
  row : ∃ cur, wr.heap[w.heap.size]? = some (.cells cur 9 (0, 0)) ∧ cur.size = c ∧ ∀ j, j < k → cur[j]? = some (.string x)
theorem rrow_step {w wr : World} {c k m : Nat} {x : ByteArray} {cur : Array Value} (hb : Below w.heap.size w wr) (h : wr.heap[w.heap.size]? = some (.cells cur 9 (0, 0))) (hs : cur.size = c) (hc : ∀ j, j < k → cur[j]? = some (.string x)) (hm : k + m ≤ c) :
    RRow w (wr.setRow w.heap.size (cur.toList.take k ++ (List.replicate m (Value.string x) ++ cur.toList.drop (k + (List.replicate m (Value.string x)).length))).toArray) c x (k + m) := by
  refine ⟨Go.Proofs.YtkfkdbmgmifopaaGreatDoor.lib.below_setRow hb (Nat.le_refl _) _, _, setRow_heap _ _ _ _ _ _ h, ?_, fun j hj => ?_⟩
  · simp only [List.size_toArray, List.length_append, List.length_take, List.length_drop, List.length_replicate, Array.length_toList]
    omega
  · simp only [List.getElem?_toArray]
    have hl : (cur.toList.take k).length = k := by rw [List.length_take, Array.length_toList]; omega
    by_cases h1 : j < k
    · rw [List.getElem?_append_left (by omega), List.getElem?_take, if_pos h1, Array.getElem?_toList]; exact hc j h1
    · rw [List.getElem?_append_right (by omega), hl, List.getElem?_append_left (by rw [List.length_replicate]; omega), List.getElem?_replicate, if_pos (by omega)]

set_option maxRecDepth 100000 in
set_option maxHeartbeats 8000000 in
theorem repeat_any (b c1 c : Nat) (x : ByteArray) (w : World) (hx : w.cell? ⟨b, 0, none⟩ = some (.string x)) (hc : c ≤ 2000000) :
    Calls Tryz.prog 74 #[.slice (some ⟨b, 0, none⟩) 1 c1, .int .i64 (c : Int)] w fun e w' => ∃ v, e = .returned v ∧ Sl w' v c 1 (List.replicate c (.string x)) ∧ Below w.heap.size w w' := by
  have HM := hid (Tryz.bits_Mul 1 c (by decide) (by omega) w)
  have e1 : 1 * c / 18446744073709551616 = 0 := Nat.div_eq_of_lt (by omega)
  have e2 : 1 * c % 18446744073709551616 = c := by rw [Nat.one_mul]; exact Nat.mod_eq_of_lt (by omega)
  rw [e1, e2] at HM
  have HX := hid hx
  clear hx e1 e2
  have h0 : ¬ (c : Int) < 0 := by omega
  have hcm : ¬ (9223372036854775807 : Int) < (c : Int) := by omega
  obtain ⟨M, hM⟩ : ∃ M, madeCells #[.string { data := #[] }] c = M := ⟨_, rfl⟩
  have hMs : M.size = c := by rw [← hM]; simp [madeCells]
  obtain ⟨si, hsi, hz, hsz, hby⟩ := info_parts infoS
  have hmk : (Instr.makeSlice 65 (.int .i64 (c : Int)) (.int .i64 (c : Int))).run Tryz.prog w = .ok (.slice (some ⟨w.heap.size, 0, none⟩) c c) (w.alloc (.cells M 9)) := by
    have := run_makeSlice (P := Tryz.prog) w 65 9 si _ Tryz.underlying65 hsi hz .i64 .i64 (c : Int) (c : Int) (by omega) (by omega) (by rw [hsz]; simp; omega) (by rw [hby]; omega) (by omega)
    rw [hsz] at this
    simp only [Int.toNat_natCast, Nat.mul_one] at this
    rw [show madeCells (Value.string { data := #[] }).cells c = M from hM] at this
    exact this
  obtain ⟨W1, hW1⟩ : ∃ W1, w.alloc (.cells M 9) = W1 := ⟨_, rfl⟩
  rw [hW1] at hmk
  have HB1 : Hid (Below w.heap.size w W1) := hid (hW1 ▸ ext_alloc _ _)
  have HR1 : Hid (W1.heap[w.heap.size]? = some (.cells M 9 (0, 0))) := hid (hW1 ▸ heap_alloc_new _ _)
  have HX1 : Hid (W1.cell? ⟨b, 0, none⟩ = some (.string x)) := hid ((HB1.out.cell (World.block_lt_of_cell? _ _ HX.out)).trans HX.out)
  have HMS := hid hMs
  have HN1 : Hid ((List.replicate (Nat.min 1 c) (Value.string x)).length = Nat.min 1 c) := hid (List.length_replicate ..)
  clear hM hMs hsi hz hsz hby hW1
  go_enter Tryz.func74, Tryz.ntmps74
  go_wp2_with fail
  refine HM.out.mono ?_
  rintro e w1 ⟨rfl, hww⟩
  subst hww
  go_wp2_with (refine wpList_copy_own rfl _ _ 65 65 rfl 9 Tryz.underlying65 (by kernel_rfl) w1.heap.size 0 c c ⟨b, 0, none⟩ 1 c1 rfl rfl M 9 HR1.out (List.replicate (Nat.min 1 c) (.string x)) HN1.out ?_ ?_ ?_ ?_)
  · intro j v hj
    rw [List.getElem?_replicate] at hj
    split at hj
    · have hm1 : Nat.min 1 c ≤ 1 := Nat.min_le_left 1 c
      obtain rfl : j = 0 := by omega
      cases hj
      exact HX1.out
    · cases hj
  · have hm1 : Nat.min 1 c ≤ c := Nat.min_le_right 1 c
    rw [HN1.out, HMS.out]; omega
  · intro v hv
    rw [(List.mem_replicate.1 hv).2]; rfl
  have HRR := hid (rrow_step (k := 0) (m := Nat.min 1 c) (x := x) HB1.out HR1.out HMS.out (fun j hj => absurd hj (Nat.not_lt_zero _)) (by have hm1 : Nat.min 1 c ≤ c := Nat.min_le_right 1 c; omega))
  have hk1 : Nat.min 1 c ≤ c ∧ (0 < c → 1 ≤ Nat.min 1 c) := ⟨Nat.min_le_right 1 c, fun h => by unfold Nat.min; omega⟩
  clear hmk
  go_loopw [8] (fun v8 wr => ∃ k : Nat, k ≤ c ∧ (0 < c → 1 ≤ k) ∧ v8 = .int .i64 (k : Int) ∧ Hid (RRow w1 wr c x k)) (fun v _ => c - (intOf v).toNat)
  case atStart =>
    refine ⟨Nat.min 1 c, hk1.1, hk1.2, ?_, hid ?_⟩
    · first | rfl | (simp [goInt]; done)
    · have h := HRR.out
      rw [show 0 + Nat.min 1 c = Nat.min 1 c from Nat.zero_add _] at h
      first | exact h | (simpa using h)
  case round =>
    obtain ⟨k, hk, hk2, rfl, HR⟩ := hrel
    obtain ⟨hbl, cur, hrow, hcs, hcx⟩ := HR.out
    have hi0 : (0 : Int) ≤ (k : Int) := by omega
    by_cases hlt : k < c
    · have hi1 : (k : Int) < (c : Int) := by omega
      have hi2 : (k : Int) ≤ (c : Int) := by omega
      have hck : ¬ c = k := by omega
      obtain ⟨m, hm⟩ : ∃ m, Nat.min k (c - k) = m := ⟨_, rfl⟩
      have hmv : (m = k ∧ k ≤ c - k) ∨ (m = c - k ∧ c - k ≤ k) := by
        rw [← hm]
        rcases Nat.le_total k (c - k) with h | h
        · exact .inl ⟨Nat.min_eq_left h, h⟩
        · exact .inr ⟨Nat.min_eq_right h, h⟩
      have hmc : k + m ≤ c := by rcases hmv with ⟨h, h'⟩ | ⟨h, h'⟩ <;> omega
      have hm1 : 1 ≤ m := by have := hk2 (by omega); rcases hmv with ⟨h, h'⟩ | ⟨h, h'⟩ <;> omega
      clear hmv
      have hwm : IntKind.i64.wrap ((k : Int) + (m : Int)) = (k : Int) + (m : Int) := by rw [IntKind.wrap_i64]; omega
      have HN2 : Hid ((List.replicate m (Value.string x)).length = Nat.min k (c - k)) := hid (by rw [List.length_replicate, hm])
      have HN3 : Hid ((List.replicate m (Value.string x)).length = m) := hid (List.length_replicate ..)
      have HSTEP := hid (rrow_step (wr := wr.drew) (m := m) hbl.drew hrow hcs hcx hmc)
      have HCS := hid hcs; have HCX := hid hcx
      have HSRC : Hid (∀ j v, (List.replicate m (Value.string x))[j]? = some v → wr.drew.cell? ((⟨w1.heap.size, 0, none⟩ : Addr).add j) = some v) := hid (fun j v hj => by
        rw [List.getElem?_replicate] at hj
        split at hj
        · rename_i hjm
          cases hj
          rw [Addr.add_lit, Nat.zero_add, cell_of_row wr.drew _ _ _ _ _ hrow]
          have : m ≤ k := by rw [← hm]; exact Nat.min_le_left ..
          exact hcx j (by omega)
        · cases hj)
      have hcp := run_copy_row (P := Tryz.prog) wr.drew 65 65 3 9 w1.heap.size k (c - k) (c - k) ⟨w1.heap.size, 0, none⟩ k c cur 9 (List.replicate m (Value.string x)) Tryz.underlying65 (by kernel_rfl) hrow HN2.out HSRC.out (by rw [HN3.out, hcs]; omega) (fun v hv => by rw [(List.mem_replicate.1 hv).2]; rfl)
      obtain ⟨wn, hwn⟩ : ∃ wn, wr.drew.setRow w1.heap.size (cur.toList.take k ++ (List.replicate m (Value.string x) ++ cur.toList.drop (k + (List.replicate m (Value.string x)).length))).toArray = wn := ⟨_, rfl⟩
      rw [List.append_assoc] at hcp
      rw [hwn] at hcp HSTEP
      rw [HN3.out] at hcp
      unfold goInt at hcp
      have hmn : ((m : Nat) : Int) = (m : Int) := rfl
      clear hm hbl hcs hcx hwn hrow
      go_wp2_with fail
      go_region
      go_wp2_with fail
      go_roundw
      case rel => exact ⟨k + m, hmc, fun _ => by omega, by simp, HSTEP⟩
      case measure => simp [intOf]; omega
    · obtain rfl : k = c := by omega
      have HSL : Hid (Sl wr (.slice (some ⟨w1.heap.size, 0, none⟩) k k) k 1 (List.replicate k (.string x))) := hid (by
        refine ⟨by rw [List.length_replicate, Nat.mul_one], _, _, rfl, Nat.le_refl _, .inr ⟨_, _, rfl, fun j v hj => ?_⟩⟩
        rw [List.getElem?_replicate] at hj
        split at hj
        · rename_i hjk
          cases hj
          rw [Nat.zero_add, cell_of_row _ _ _ _ _ _ hrow]
          exact hcx j hjk
        · cases hj)
      have HBL := hid hbl
      clear hrow hcs hcx hbl hlt
      go_wp2
      go_ret
      exact ⟨_, rfl, HSL.out, HBL.out⟩
end Go.Proofs.YtkfkdbmgmifopaaGreatDoor.worlds
