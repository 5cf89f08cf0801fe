/- Constants folded: fold.once. Condition: the list is not long. -/
import Derived.Test.YtmbcjcicieiolaaDoorFold8
import Derived.Deep.LoopGhost
import Derived.Test.YtmbcjcicieiolaaDoorFlow1
import Derived.Laws.StructEq
import Derived.BigQuiet
import Derived.Test.YtmbcjcicieiolaaDoorNum1
set_option linter.unusedSimpArgs false
namespace Go.Proofs.YtmbcjcicieiolaaDoor.folds
open Go.RowKit Go.Proofs.YtmbcjcicieiolaaDoor.lib Go.Proofs.YtmbcjcicieiolaaDoor.errs Go.Proofs.YtmbcjcicieiolaaDoor.names Go.Proofs.YtmbcjcicieiolaaDoor.descs Go.Proofs.YtmbcjcicieiolaaDoor.ins Go.Proofs.YtmbcjcicieiolaaDoor.flows Go.Proofs.YtmbcjcicieiolaaDoor.nums Go.Proofs.YtmbcjcicieiolaaDoor.maps Go.Proofs.YtmbcjcicieiolaaDoor.grow

theorem below_map {n : Nat} {w u u' : World} {g : Nat} (h : Below n w u) (hg : u.grownBy u' (some g)) (hn : n ≤ g) (hw : n ≤ w.heap.size) : Below n w u' :=
  h.trans ⟨hg.os, hg.tape, hg.output, hg.size, fun k hk => hg.block k (Nat.lt_of_lt_of_le hk (Nat.le_trans hw h.size)) (fun e => by have := Option.some.inj e; omega)⟩

theorem cells_drop (l : List I) (k : Nat) : (cellsOf l).drop (k * 6) = cellsOf (l.drop k) := by
  induction k generalizing l with
  | zero => simp
  | succ k ih =>
    cases l with
    | nil => simp
    | cons x l =>
      rw [List.drop_succ_cons, ← ih l, show (k + 1) * 6 = 6 + k * 6 by omega, ← List.drop_drop]
      rfl
theorem cells_take (l : List I) (k : Nat) : (cellsOf l).take (k * 6) = cellsOf (l.take k) := by
  induction k generalizing l with
  | zero => simp
  | succ k ih =>
    cases l with
    | nil => simp
    | cons x l =>
      rw [List.take_succ_cons]
      show (x.cells ++ cellsOf l).take ((k + 1) * 6) = x.cells ++ cellsOf (l.take k)
      rw [List.take_append, ← ih l]
      have : x.cells.length = 6 := rfl
      rw [this, show (k + 1) * 6 - 6 = k * 6 by omega, List.take_of_length_le (by omega)]
theorem code_drop {w : World} {a : Option Addr} {c : Nat} {l : List I} (h : Go.Proofs.YtmbcjcicieiolaaDoor.flows.Code w (.slice a l.length c) l) (k : Nat) (hk : k ≤ l.length) :
    Go.Proofs.YtmbcjcicieiolaaDoor.flows.Code w (.slice (if c = k then a else a.map (·.add (k * 6))) (l.length - k) (c - k)) (l.drop k) := by
  have := Sl.drop h k hk
  rw [cells_drop] at this
  show Sl w _ (l.drop k).length 6 _
  rw [List.length_drop]; exact this
theorem code_take {w : World} {a : Option Addr} {c : Nat} {l : List I} (h : Go.Proofs.YtmbcjcicieiolaaDoor.flows.Code w (.slice a l.length c) l) (k : Nat) (hk : k ≤ l.length) :
    Go.Proofs.YtmbcjcicieiolaaDoor.flows.Code w (.slice a k c) (l.take k) := by
  have := Sl.take h k hk
  rw [cells_take] at this
  show Sl w _ (l.take k).length 6 _
  rw [List.length_take, Nat.min_eq_left hk]; exact this

def outI (w0 : World) (n : Nat) (xs : List Value) : Value → World → Prop := fun v u => Out w0 u 37 6 v n xs
theorem outI_stays (w0 : World) (n : Nat) (xs : List Value) : ∀ v w w', Below w.heap.size w w' → outI w0 n xs v w → outI w0 n xs v w' := fun _ _ _ hb h => Out.later h hb
/-- one instruction's cells -/
def oneI (x : I) : Value → World → Prop := fun v u => Sl u v 1 6 x.cells
theorem oneI_stays (x : I) : ∀ v w w', Below w.heap.size w w' → oneI x v w → oneI x v w' := fun _ _ _ hb h => Sl.below h hb

set_option maxRecDepth 100000 in
set_option maxHeartbeats 4000000 in
theorem once_any (va : Value) (l : List I) (w : World) (ha : Go.Proofs.YtmbcjcicieiolaaDoor.flows.Code w va l) (hn : l.length ≤ 1000) :
    Calls Tryd.prog 26 #[va] w fun e w' => ∃ v', e = .returned (.tuple #[v', .bool (onceOf l).2]) ∧ Out w w' 37 6 v' (onceOf l).1.length (cellsOf (onceOf l).1) := by
  have hmm := @run_makeMap Tryd.prog
  obtain ⟨a, c, rfl⟩ := ha.val
  have HA := hid ha
  clear ha
  obtain ⟨W2, hW2⟩ : ∃ W2, (w.alloc (.map #[] 0)).alloc (.cells #[.map (some w.heap.size)] 68) = W2 := ⟨_, rfl⟩
  have HB2 : Hid (Below w.heap.size w W2) := hid (hW2 ▸ (((Below.refl w.heap.size w).alloc (Nat.le_refl _) (.map #[] 0)).alloc (by simp) _))
  have HG2 : Hid (Goes W2 w.heap.size (l.take 0)) := hid (hW2 ▸ ⟨[], ⟨#[], 0, by rw [Below.heap_alloc _ _ _ (by simp)]; exact heap_alloc_new _ _, rfl⟩, by simp, fun k => by simp [goesTo, getK]⟩)
  have HC2 : Hid (W2.cell? ⟨w.heap.size + 1, 0, none⟩ = some (.map (some w.heap.size))) := hid (by
    have e2 : (w.alloc (.map #[] 0)).heap.size = w.heap.size + 1 := by simp
    have h : W2.heap[w.heap.size + 1]? = some (.cells #[.map (some w.heap.size)] 68 (0, 0)) := by rw [← hW2, ← e2]; exact heap_alloc_new _ _
    rw [cell_of_row _ _ _ _ _ _ h]; rfl)
  go_enter Tryd.func26, Tryd.ntmps26
  go_wp2_with fail
  go_loopw [14] (fun i wr => ∃ k : Nat, k ≤ l.length ∧ i = .int .i64 k ∧ Hid (Below w.heap.size w wr) ∧ Hid (Goes wr w.heap.size (l.take k)) ∧ Hid (wr.cell? ⟨w.heap.size + 1, 0, none⟩ = some (.map (some w.heap.size)))) (fun i _ => l.length - (intOf i).toNat)
  case atStart => exact ⟨0, Nat.zero_le _, rfl, HB2, HG2, HC2⟩
  case round =>
    obtain ⟨k, hk, rfl, HR, HG, HC⟩ := hrel
    by_cases hlt : k < l.length
    · obtain ⟨bb, off, hab, hd0, hd1, hd2, hd3, hd4, hd5⟩ := code_at (HA.out.below HR.out) hlt
      subst hab
      have hi : (0 : Int) ≤ (k : Int) := by omega
      have hkl : (k : Int) < (l.length : Int) := by omega
      have HADD := hid (fun (X : World) (h : Goes X w.heap.size (l.take k)) (hj : jumpsOp l[k].op = true) => goes_add hlt h hj)
      have HSK := hid (fun (X : World) (h : Goes X w.heap.size (l.take k)) (hj : jumpsOp l[k].op = false) => goes_skip hlt h hj)
      generalize l[k] = x at hd0 hd1 hd2 hd3 hd4 hd5 HADD HSK
      obtain ⟨op, xa, xb, t, xc, xn⟩ := x
      simp only at hd0 hd1 hd2 hd3 hd4 hd5 HADD HSK
      have l4 := World.block_lt_of_cell? _ _ HC.out
      have hc1 : (wr.alloc (.cells #[.int .i64 op, .int .i64 xa, .int .i64 xb, .string t, .string xc, .string xn] 37)).cell? ⟨w.heap.size + 1, 0, none⟩ = some (.map (some w.heap.size)) := by rw [World.cell?_alloc_past _ _ _ l4]; exact HC.out
      have HX : Hid (Goes (wr.alloc (.cells #[.int .i64 op, .int .i64 xa, .int .i64 xb, .string t, .string xc, .string xn] 37)) w.heap.size (l.take k)) := hid (goes_keep HG.out (Below.heap_alloc wr _ _ (goes_lt HG.out)))
      have HBX : Hid (Below w.heap.size w (wr.alloc (.cells #[.int .i64 op, .int .i64 xa, .int .i64 xb, .string t, .string xc, .string xn] 37))) := hid (HR.out.alloc HR.out.size _)
      have HCX := hid hc1
      cases hj : jumpsOp op with
      | true =>
        obtain ⟨w3, hrun, hG3, hg3⟩ := HADD.out _ HX.out hj
        have hrun2 : (Instr.mapUpdate 68 (.map (some w.heap.size)) (.int .i64 xa) (.agg #[])).run Tryd.prog (wr.alloc (.cells #[.int .i64 op, .int .i64 xa, .int .i64 xb, .string t, .string xc, .string xn] 37)) = .ok () w3 := hrun
        have HG3 := hid hG3
        have HB3 := hid (below_map HBX.out hg3 (Nat.le_refl _) (Nat.le_refl _))
        have HC3 : Hid (w3.cell? ⟨w.heap.size + 1, 0, none⟩ = some (.map (some w.heap.size))) := hid (by
          rw [World.cell?_of_block (a := ⟨w.heap.size + 1, 0, none⟩) (hg3.block _ (World.block_lt_of_cell? _ _ HCX.out) (by simp))]; exact HCX.out)
        have HJ := hid hj
        clear hrun hG3 hg3 hj
        go_wp2_with fail
        refine (jumps_any _ _).mono ?_
        rintro e wj ⟨rfl, hww⟩
        obtain rfl := hww.symm
        rw [HJ.out]
        go_wp2_with fail
        go_roundw
        case rel => exact ⟨k + 1, by omega, by go_num, HB3, HG3, HC3⟩
        case measure => simp [intOf]; omega
      | false =>
        have HG3 := hid (HSK.out _ HX.out hj)
        have HJ := hid hj
        clear hj
        go_wp2_with fail
        refine (jumps_any _ _).mono ?_
        rintro e wj ⟨rfl, hww⟩
        obtain rfl := hww.symm
        rw [HJ.out]
        go_wp2_with fail
        go_roundw
        case rel => exact ⟨k + 1, by omega, by go_num, HBX, HG3, HCX⟩
        case measure => simp [intOf]; omega
    · have e : k = l.length := by omega
      have HGL : Hid (Goes wr w.heap.size l) := hid (by have := HG.out; rwa [e, List.take_length] at this)
      obtain ⟨W3, hW3⟩ : ∃ W3, W3 = wr := ⟨_, rfl⟩
      subst hW3
      clear e
      go_wp2_with fail
      go_loopw [28] (fun i wr => ∃ k : Nat, k ≤ l.length ∧ i = .int .i64 k ∧ Hid (Below w.heap.size w wr) ∧ Hid (Goes wr w.heap.size l) ∧ Hid (wr.cell? ⟨w.heap.size + 1, 0, none⟩ = some (.map (some w.heap.size))) ∧ Hid (∀ j, j < k → placeB l j = false)) (fun i _ => l.length - (intOf i).toNat)
      case atStart => exact ⟨0, Nat.zero_le _, rfl, HR, HGL, HC, hid (fun j hj => absurd hj (Nat.not_lt_zero _))⟩
      case round =>
        obtain ⟨i, hi, rfl, HR2, HG2, HC2, HNO⟩ := hrel
        by_cases hlt2 : i < l.length
        · have hi0 : (0 : Int) ≤ (i : Int) := by omega
          have hil : (i : Int) < (l.length : Int) := by omega
          have hil2 : (i : Int) ≤ (l.length : Int) := by omega
          obtain ⟨⟨⟨mo, ma, mb, mt, mc, mn⟩, n⟩, hK⟩ : ∃ p, knownOf (l.drop i) = p := ⟨_, rfl⟩
          have HKN : Hid (∀ v, Go.Proofs.YtmbcjcicieiolaaDoor.flows.Code wr v (l.drop i) → Calls Tryd.prog 42 #[v] wr fun e w' => e = .returned (.tuple #[.agg #[.int .i64 mo, .int .i64 ma, .int .i64 mb, .string mt, .string mc, .string mn], .int .i64 n]) ∧ Below wr.heap.size wr w') := hid (fun v hv => by
            have := known_any v (l.drop i) wr hv (by rw [List.length_drop]; omega)
            unfold KnownBy at this; rw [hK] at this; exact this)
          have hci : ¬ c = i := by have := HA.out.cap.2; omega
          have HCD := hid (code_drop (HA.out.below HR2.out) i (Nat.le_of_lt hlt2))
          rw [if_neg hci] at HCD
          have HPL : Hid (∀ b, (n = 0 → b = false) → (n ≠ 0 → b = !([(i : Int) + 1, (i : Int) + n - 1].any (goesTo l))) → placeB l i = b) := hid (fun b h0 h1 => by
            unfold placeB; rw [hK]
            by_cases hn0 : n = 0
            · subst hn0; rw [h0 rfl]; rfl
            · have hb : (n != 0) = true := by simpa using hn0
              rw [h1 hn0, hb]; simp)
          have HN3 : Hid (n ≠ 0 → 2 ≤ n ∧ n ≤ 3 ∧ i + n ≤ l.length) := hid (fun hn0 => by
            have hlen : (l.drop i).length = l.length - i := List.length_drop
            rcases known_cases (l.drop i) with h | ⟨h, x, y, r, e, _⟩ | ⟨h, x, y, z, r, e, _⟩
            · rw [hK] at h; exact absurd h hn0
            · rw [hK] at h; rw [e] at hlen; simp at hlen h; omega
            · rw [hK] at h; rw [e] at hlen; simp at hlen h; omega)
          have HFA : Hid (foldAt l i = (l.take i ++ [⟨mo, ma, mb, mt, mc, mn⟩]) ++ List.replicate (n - 1) nopI ++ l.drop (i + n)) := hid (by unfold foldAt; rw [hK])
          clear hK
          go_wp2_with fail
          refine (HKN.out _ HCD.out).mono ?_
          rintro e w1 ⟨rfl, hb1⟩
          have HB1 := hid (HR2.out.trans (hb1.mono HR2.out.size))
          have HG1 := hid (goes_keep HG2.out (hb1.block _ (goes_lt HG2.out)))
          have HC1 := hid ((hb1.cell (World.block_lt_of_cell? _ _ HC2.out)).trans HC2.out)
          clear hb1
          obtain ⟨X1, hX1⟩ : ∃ X1, w1.alloc (.cells #[.int .i64 mo, .int .i64 ma, .int .i64 mb, .string mt, .string mc, .string mn] 37) = X1 := ⟨_, rfl⟩
          have HE1 : Hid (Below w1.heap.size w1 X1) := hid (hX1 ▸ ext_alloc _ _)
          have HM1 : Hid (X1.heap[w1.heap.size]? = some (.cells #[.int .i64 mo, .int .i64 ma, .int .i64 mb, .string mt, .string mc, .string mn] 37)) := hid (hX1 ▸ heap_alloc_last _ _)
          have HBX := hid (HB1.out.trans (HE1.out.mono HB1.out.size))
          have HGX := hid (goes_keep HG1.out (HE1.out.block _ (goes_lt HG1.out)))
          have HCX := hid ((HE1.out.cell (World.block_lt_of_cell? _ _ HC1.out)).trans HC1.out)
          have HSX : Hid (∀ v : World, v = X1 → v.heap.size = X1.heap.size) := hid (fun v h => by rw [h])
          by_cases hn0 : n = 0
          · have HPF := hid (HPL.out false (fun _ => rfl) (fun h => absurd hn0 h))
            subst hn0
            go_wp2_with fail
            go_roundw
            case rel => exact ⟨i + 1, by omega, by go_num, HBX, HGX, HCX, hid (fun j hj => by
              rcases Nat.lt_or_ge j i with h | h
              · exact HNO.out j h
              · obtain rfl : j = i := by omega
                exact HPF.out)⟩
            case measure => simp [intOf]; omega
          · obtain ⟨hn2, hn3, hnl⟩ := HN3.out hn0
            have hn0' : ¬ (n : Int) = 0 := by omega
            have hn2' : (2 : Int) ≤ (n : Int) := by omega
            have hn3' : (n : Int) ≤ 3 := by omega
            have hnl' : (i : Int) + (n : Int) ≤ (l.length : Int) := by omega
            have hl1000 : (l.length : Int) ≤ 1000 := by omega
            have HP1 := hid (fun b (h : b = !([(i : Int) + 1, (i : Int) + n - 1].any (goesTo l))) => HPL.out b (fun h => absurd h hn0) (fun _ => h))
            obtain ⟨G, hG⟩ : ∃ G, [(i : Int) + 1, (i : Int) + n - 1].any (goesTo l) = G := ⟨_, rfl⟩
            have HG := hid hG
            clear hG
            go_wp2_with fail
            refine (containsG_any _ [(i : Int) + 1, (i : Int) + n - 1] l (w.heap.size + 1) w.heap.size _ (Sl.lit _ #[.int .i64 ((i : Int) + 1), .int .i64 ((i : Int) + n - 1)] 3 2 1 rfl) ?_ ?_ (by simp)).mono ?_
            · rw [World.cell?_alloc_past _ _ _ (World.block_lt_of_cell? _ _ HCX.out)]; exact HCX.out
            · exact goes_keep HGX.out (Below.heap_alloc _ _ _ (goes_lt HGX.out))
            rintro e w4 ⟨rfl, hb4⟩
            have HB4 := hid hb4
            clear hb4
            rw [HG.out]
            cases G with
            | true =>
              have HPF := hid (HP1.out false (by rw [HG.out]; rfl))
              go_wp2_with fail
              go_roundw
              case rel => exact ⟨i + 1, by omega, by go_num, hid (HBX.out.trans (((ext_alloc _ _).trans (HB4.out.mono (by simp))).mono HBX.out.size)), hid (goes_keep HGX.out (((ext_alloc _ _).trans (HB4.out.mono (by simp))).block _ (goes_lt HGX.out))), hid ((((ext_alloc _ _).trans (HB4.out.mono (by simp))).cell (World.block_lt_of_cell? _ _ HCX.out)).trans HCX.out), hid (fun j hj => by
                rcases Nat.lt_or_ge j i with h | h
                · exact HNO.out j h
                · obtain rfl : j = i := by omega
                  exact HPF.out)⟩
              case measure => simp [intOf]; omega
            | false =>
              have HPT := hid (HP1.out true (by rw [HG.out]; rfl))
              have HON : Hid (onceOf l = (foldAt l i, true)) := hid (once_at hlt2 HPT.out HNO.out)
              have HBW : Hid (Below w.heap.size w w4) := hid (HBX.out.trans (((ext_alloc _ _).trans (HB4.out.mono (by simp))).mono HBX.out.size))
              have HM4 : Hid (w4.heap[w1.heap.size]? = some (.cells #[.int .i64 mo, .int .i64 ma, .int .i64 mb, .string mt, .string mc, .string mn] 37)) := hid ((((ext_alloc _ _).trans (HB4.out.mono (by simp))).block _ (Array.getElem?_eq_some_iff.1 HM1.out).1).trans HM1.out)
              have HCT := hid (fun (u : World) (hu : Below w.heap.size w u) => code_take (HA.out.below hu) i (Nat.le_of_lt hlt2))
              go_wp2_with fail
              --TAIL
              have hic : (i : Int) ≤ (c : Int) := by have := HA.out.cap.2; omega
              obtain ⟨W5, hW5⟩ : ∃ W5, W5 = wr := ⟨_, rfl⟩
              subst hW5
              refine wp_region_ext_tail 6 [(3, outI w i (cellsOf (l.take i))), (5, oneI ⟨mo, ma, mb, mt, mc, mn⟩)] ⟨outI_stays _ _ _, oneI_stays _, trivial⟩ (by kernel_rfl) (by kernel_rfl) ?_
              refine wpG_calc 1 rfl rfl rfl (fun u => by go_simp; rfl) ?_
              simp only [Act.put, List.setIfInBounds_toArray, List.set_cons_zero, List.set_cons_succ]
              refine wpG_calc 2 rfl rfl rfl (fun u => by go_simp; rfl) ?_
              simp only [Act.put, List.setIfInBounds_toArray, List.set_cons_zero, List.set_cons_succ]
              refine wpG_calc 3 rfl rfl rfl (fun u => by go_simp; rfl) ?_
              simp only [Act.put, List.setIfInBounds_toArray, List.set_cons_zero, List.set_cons_succ]
              refine wpG_rel 4 rfl rfl rfl ?_ ?_
              · intro u hu hh
                clear hh
                go_simp
                refine (cloneI_any _ (l.take i) u (HCT.out u (HBW.out.trans (hu.mono HBW.out.size))) (by rw [List.length_take]; omega)).mono ?_
                rintro e w6 ⟨v6, rfl, ho6⟩
                have ho7 := Out.since (HBW.out.trans (hu.mono HBW.out.size)) ho6
                rw [List.length_take, Nat.min_eq_left (Nat.le_of_lt hlt2)] at ho7
                exact ⟨_, rfl, ho7, ho6.below⟩
              intro v4 ⟨u4, _, hr4⟩
              obtain ⟨a4, c4, hv4⟩ := Out.sl hr4 |>.val
              clear hr4
              subst hv4
              simp only [Act.put, List.setIfInBounds_toArray, List.set_cons_zero, List.set_cons_succ]
              refine wpG_read 5 rfl rfl (.agg #[.int .i64 mo, .int .i64 ma, .int .i64 mb, .string mt, .string mc, .string mn]) rfl ?_ ?_
              · intro u hu hh
                have hrow := (hu.block _ (Array.getElem?_eq_some_iff.1 HM4.out).1).trans HM4.out
                have hld := run_loadVar_row (P := Tryd.prog) u w1.heap.size 37 37 _ _ _ hrow Tryd.underlying37 rfl (by kernel_rfl)
                unfold execOp
                simp only [Act.eval, Instr.loadAt, Instr.sureAddr, Sem.run_bind, Sem.run_pure]
                change ((Sem.run Tryd.prog (loadVar 37 ⟨w1.heap.size, 0, none⟩) u).andThen fun a w' => Result.ok (Next.value a) w') = _
                rw [hld]
                rfl
              simp only [Act.put, List.setIfInBounds_toArray, List.set_cons_zero, List.set_cons_succ]
              refine wpG_rel 6 rfl rfl rfl ?_ ?_
              · intro u hu hh
                clear hh
                go_simp
                exact ⟨Sl.lit u #[.int .i64 mo, .int .i64 ma, .int .i64 mb, .string mt, .string mc, .string mn] 37 1 6 rfl, ext_alloc _ _⟩
              intro v6 ⟨u6, _, hr6⟩
              obtain ⟨a6, c6, hv6⟩ := Sl.val hr6
              clear hr6
              subst hv6
              simp only [Act.put, List.setIfInBounds_toArray, List.set_cons_zero, List.set_cons_succ]
              refine wpG_nil fun w7 hb7 hF => ?_
              have hcl : outI w i (cellsOf (l.take i)) (.slice a4 i c4) w7 := hF 3
              have hone : oneI ⟨mo, ma, mb, mt, mc, mn⟩ (.slice a6 1 c6) w7 := hF 5
              have HCL : Hid (Out w w7 37 6 (.slice a4 i c4) i (cellsOf (l.take i))) := hid hcl
              have HONE : Hid (Sl w7 (.slice a6 1 c6) 1 6 (I.cells ⟨mo, ma, mb, mt, mc, mn⟩)) := hid hone
              clear hF hcl hone hb7
              have O1 := hid (show ∀ u ∈ (I.cells ⟨mo, ma, mb, mt, mc, mn⟩), u.oneCell' = true from fun u hu => one_cellsL [⟨mo, ma, mb, mt, mc, mn⟩] u (by simpa [cellsOf] using hu))
              refine wpList_append_src_at w w7 rfl (.tmp 54) (.tmp 56) 22 rfl 37 (.agg #[.int .i64 0, .int .i64 0, .int .i64 0, .string { data := #[] }, .string { data := #[] }, .string { data := #[] }]) 6 72 1 Tryd.underlying22 infoI rfl (by decide) (.slice a4 i c4) i (cellsOf (l.take i)) HCL.out rfl (.slice a6 1 c6) _ HONE.out rfl O1.out ?_ ?_ ?_
              all_goals first | (intro v8 w8 ho8 hg8 _) | omega | skip
              rw [← cells_more] at ho8
              have HO8 := hid ho8
              clear ho8 hg8
              obtain ⟨a8, c8, hv8⟩ := HO8.out.sl.val
              subst hv8
              obtain ⟨j, hj⟩ : ∃ j, i + n = j := ⟨_, rfl⟩
              have hjn : (i : Int) + (n : Int) = (j : Int) := by omega
              have hjl : (j : Int) ≤ (l.length : Int) := by omega
              have hjl2 : j ≤ l.length := by omega
              rw [hj] at HFA
              have HJ := hid hj
              clear hnl'
              go_wp2_with fail
              go_loopw [10, 60] (fun v cnt wr => ∃ k : Nat, k ≤ n - 1 ∧ cnt = .int .i64 k ∧ Hid (Out w wr 37 6 v (i + 1 + k) (cellsOf ((l.take i ++ [⟨mo, ma, mb, mt, mc, mn⟩]) ++ List.replicate k nopI)))) (fun _ cnt _ => n - (intOf cnt).toNat)
              case atStart => exact ⟨0, Nat.zero_le _, rfl, hid (by simpa using HO8.out)⟩
              case round =>
                obtain ⟨q, hq, rfl, HR3⟩ := hrel
                obtain ⟨a3, c3, hv3⟩ := HR3.out.sl.val
                subst hv3
                obtain ⟨xs, hxs⟩ : ∃ xs, cellsOf ((l.take i ++ [⟨mo, ma, mb, mt, mc, mn⟩]) ++ List.replicate q nopI) = xs := ⟨_, rfl⟩
                rw [hxs] at HR3
                have HXS := hid hxs
                clear hxs
                by_cases hqn : q < n - 1
                · have hq0 : (0 : Int) ≤ (q : Int) := by omega
                  have hq1 : (q : Int) < (n : Int) - 1 := by omega
                  have hq3 : (q : Int) ≤ 3 := by omega
                  go_wp2_with (at_builtin; refine wpList_append_lit_b w _ _ _ rfl _ _ 22 rfl 37 _ 6 72 1 Tryd.underlying22 infoI rfl (by decide) _ _ _ HR3.out rfl rfl ?_ rfl ?_ ?_ ?_ ?_)
                  all_goals first | (intro v' w' ho hg _) | omega | (simp [Value.oneCell']; done) | skip
                  have HO2 := hid (show Out w w' 37 6 v' (i + 1 + (q + 1)) (cellsOf ((l.take i ++ [⟨mo, ma, mb, mt, mc, mn⟩]) ++ List.replicate (q + 1) nopI)) from by rw [List.replicate_succ', ← List.append_assoc, cells_more, HXS.out]; exact ho)
                  clear ho hg
                  go_wp2
                  go_roundw
                  case rel => exact ⟨q + 1, by omega, by go_num, HO2⟩
                  case measure => simp [intOf]; omega
                · have e : q = n - 1 := by omega
                  have hq1 : ¬ (q : Int) < (n : Int) - 1 := by omega
                  have hlen : i + 1 + q = j := by omega
                  have HES := hid (one_cellsL (l.drop j))
                  have HCE : Hid (xs ++ cellsOf (l.drop j) = cellsOf (foldAt l i)) := hid (by rw [← HXS.out, HFA.out, e]; simp [cellsOf, List.flatMap_append])
                  clear e
                  by_cases hcj : c = j
                  · subst hcj
                    have hsl := code_drop (HA.out.below HR3.out.below) c hjl2
                    rw [if_pos rfl, Nat.sub_self] at hsl
                    have HSR : Hid (Sl wr _ (l.length - c) 6 (cellsOf (l.drop c))) := hid (by have h := hsl; unfold Go.Proofs.YtmbcjcicieiolaaDoor.flows.Code at h; rw [List.length_drop] at h; exact h)
                    clear hsl
                    go_wp2_with (at_builtin; refine wpList_append_src w _ rfl _ _ 22 rfl 37 _ 6 72 (l.length - c) Tryd.underlying22 infoI rfl (by decide) _ _ _ HR3.out rfl _ (cellsOf (l.drop c)) HSR.out rfl HES.out ?_ ?_ ?_)
                    all_goals first | (intro v9 w9 ho9 hg9) | omega | skip
                    have HO9 : Hid (Out w w9 37 6 v9 (foldAt l i).length (cellsOf (foldAt l i))) := hid (by rw [fold_len HPT.out, ← HCE.out]; exact ho9)
                    obtain ⟨a9, c9, hv9⟩ := ho9.sl.val
                    subst hv9
                    clear ho9 hg9
                    go_wp2
                    go_ret2
                    rw [HON.out]
                    exact ⟨_, rfl, HO9.out⟩
                  · have hsl := code_drop (HA.out.below HR3.out.below) j hjl2
                    rw [if_neg hcj] at hsl
                    have HSR : Hid (Sl wr _ (l.length - j) 6 (cellsOf (l.drop j))) := hid (by have h := hsl; unfold Go.Proofs.YtmbcjcicieiolaaDoor.flows.Code at h; rw [List.length_drop] at h; exact h)
                    clear hsl
                    go_wp2_with (at_builtin; refine wpList_append_src w _ rfl _ _ 22 rfl 37 _ 6 72 (l.length - j) Tryd.underlying22 infoI rfl (by decide) _ _ _ HR3.out rfl _ (cellsOf (l.drop j)) HSR.out rfl HES.out ?_ ?_ ?_)
                    all_goals first | (intro v9 w9 ho9 hg9) | omega | skip
                    have HO9 : Hid (Out w w9 37 6 v9 (foldAt l i).length (cellsOf (foldAt l i))) := hid (by rw [fold_len HPT.out, ← HCE.out]; exact ho9)
                    obtain ⟨a9, c9, hv9⟩ := ho9.sl.val
                    subst hv9
                    clear ho9 hg9
                    go_wp2
                    go_ret2
                    rw [HON.out]
                    exact ⟨_, rfl, HO9.out⟩
              --ENDTAIL
        · have HON : Hid (onceOf l = (l, false)) := hid (once_no (fun j hj => HNO.out j (by omega)))
          have hil : ¬ (i : Int) < (l.length : Int) := by omega
          go_wp2_with fail
          refine (cloneI_any _ l wr (HA.out.below HR2.out) (by omega)).mono ?_
          rintro e w5 ⟨v5, rfl, ho5⟩
          have HO5 := hid (Out.since HR2.out ho5)
          obtain ⟨a5, c5, rfl⟩ := ho5.sl.val
          clear ho5
          go_wp2
          go_ret2
          rw [HON.out]
          exact ⟨_, rfl, HO5.out⟩
end Go.Proofs.YtmbcjcicieiolaaDoor.folds

/- Constants folded: fold.Once and fold.All. Conditions as for flow.Check. -/
set_option linter.unusedSimpArgs false
namespace Go.Proofs.YtmbcjcicieiolaaDoor.folds
open Go.RowKit Go.Proofs.YtmbcjcicieiolaaDoor.lib Go.Proofs.YtmbcjcicieiolaaDoor.errs Go.Proofs.YtmbcjcicieiolaaDoor.names Go.Proofs.YtmbcjcicieiolaaDoor.descs Go.Proofs.YtmbcjcicieiolaaDoor.ins Go.Proofs.YtmbcjcicieiolaaDoor.flows Go.Proofs.YtmbcjcicieiolaaDoor.nums

/-- what fold.Once and fold.All answer -/
def FoldBy (w : World) (l r : List I) (e : Ending) (w' : World) : Prop :=
  if codeFault l = 0 then ∃ v, e = .returned (.tuple #[v, .nilIface]) ∧ Out w w' 37 6 v r.length (cellsOf r)
  else e = .returned (.tuple #[.slice none 0 0, .iface 24 (.int .i64 (codeFault l))]) ∧ Below w.heap.size w w'
theorem foldBy_bad {w w' : World} {l r : List I} {e : Ending} (h : ¬ codeFault l = 0) (hr : FoldBy w l r e w') : e = .returned (.tuple #[.slice none 0 0, .iface 24 (.int .i64 (codeFault l))]) ∧ Below w.heap.size w w' := by
  unfold FoldBy at hr; rwa [if_neg h] at hr
theorem foldBy_good {w w' : World} {l r : List I} {e : Ending} (h : codeFault l = 0) (hr : FoldBy w l r e w') : ∃ v, e = .returned (.tuple #[v, .nilIface]) ∧ Out w w' 37 6 v r.length (cellsOf r) := by
  unfold FoldBy at hr; rwa [if_pos h] at hr

set_option maxRecDepth 100000 in
set_option maxHeartbeats 2000000 in
theorem fonce_any (va : Value) (l : List I) (w : World) (ha : Go.Proofs.YtmbcjcicieiolaaDoor.flows.Code w va l) (hf : FormsAt w) (hs : ∀ x ∈ l, Small x) (hn : l.length ≤ 2000000) :
    Calls Tryd.prog 9 #[va] w (FoldBy w l (onceOf l).1) := by
  have HC := hid (fcheck_any va l w ha hf hs (by omega))
  have HA := hid ha
  obtain ⟨a, c, rfl⟩ := ha.val
  clear ha hf hs
  by_cases h0 : codeFault l = 0
  · have HZ := hid h0
    have HE : Hid (errVal (codeFault l) = .nilIface) := hid (errVal_zero h0)
    have hl40 := ((code_iff l).1 h0).1
    clear h0
    go_enter Tryd.func9, Tryd.ntmps9
    go_wp2_with fail
    refine HC.out.mono ?_
    rintro e w1 ⟨rfl, hb1⟩
    rw [HE.out]
    have HB1 := hid hb1
    clear hb1
    go_wp2_with fail
    refine (once_any _ l _ (HA.out.below HB1.out) (by omega)).mono ?_
    rintro e w2 ⟨v, rfl, ho2⟩
    have HO2 := hid (Out.since HB1.out ho2)
    obtain ⟨a2, c2, rfl⟩ := ho2.sl.val
    clear ho2
    go_wp2
    go_ret2
    unfold FoldBy
    rw [if_pos HZ.out]
    exact ⟨_, rfl, HO2.out⟩
  · have HZ := hid h0
    have HE : Hid (errVal (codeFault l) = .iface 24 (.int .i64 (codeFault l))) := hid (errVal_ne h0)
    clear h0
    go_enter Tryd.func9, Tryd.ntmps9
    go_wp2_with fail
    refine HC.out.mono ?_
    rintro e w1 ⟨rfl, hb1⟩
    rw [HE.out]
    have HB1 := hid hb1
    clear hb1
    go_wp2
    go_ret2
    unfold FoldBy
    rw [if_neg HZ.out]
    exact ⟨rfl, HB1.out⟩

set_option maxRecDepth 100000 in
set_option maxHeartbeats 2000000 in
theorem fall_any (va : Value) (l : List I) (w : World) (ha : Go.Proofs.YtmbcjcicieiolaaDoor.flows.Code w va l) (hf : FormsAt w) (hs : ∀ x ∈ l, Small x) (hn : l.length ≤ 2000000) :
    Calls Tryd.prog 10 #[va] w (FoldBy w l (finOf l)) := by
  have HC := hid (fcheck_any va l w ha hf hs (by omega))
  have HA := hid ha
  obtain ⟨a, c, rfl⟩ := ha.val
  clear ha hf hs
  by_cases h0 : codeFault l = 0
  · have HZ := hid h0
    have HE : Hid (errVal (codeFault l) = .nilIface) := hid (errVal_zero h0)
    have hl40 := ((code_iff l).1 h0).1
    clear h0
    go_enter Tryd.func10, Tryd.ntmps10
    go_wp2_with fail
    refine HC.out.mono ?_
    rintro e w1 ⟨rfl, hb1⟩
    rw [HE.out]
    have HB1 := hid hb1
    clear hb1
    go_wp2_with fail
    refine (once_any _ l _ (HA.out.below HB1.out) (by omega)).mono ?_
    rintro e w2 ⟨v, rfl, ho2⟩
    have HO2 := hid (Out.since HB1.out ho2)
    obtain ⟨a2, c2, hv2⟩ := ho2.sl.val
    subst hv2
    clear ho2
    go_wp2_with fail
    go_loopg [5, 6] (live (onceOf l).1 + (onceOf l).2.toNat) (fun k v b wr => ∃ (m : List I) (more : Bool), b = .bool more ∧ k = live m + more.toNat ∧ Hid (Out w wr 37 6 v m.length (cellsOf m)) ∧ Hid (m.length = l.length ∧ finOf m = finOf l ∧ (more = false → m = finOf l)))
    case atStart => exact ⟨(onceOf l).1, (onceOf l).2, rfl, rfl, HO2, hid ⟨once_len l, fin_once l, fun h => by rw [once_same h, fin_end h]⟩⟩
    case round =>
      obtain ⟨m, more, rfl, hgk, HO, HP⟩ := hrel
      have HGK := hid hgk
      clear hgk
      obtain ⟨a3, c3, hv3⟩ := HO.out.sl.val
      subst hv3
      cases more with
      | true =>
        go_wp2_with fail
        refine (once_any _ m _ HO.out.sl (by have := HP.out.1; omega)).mono ?_
        rintro e w3 ⟨v3, rfl, ho3⟩
        have HO3 := hid (Out.since HO.out.below ho3)
        obtain ⟨a4, c4, hv4⟩ := ho3.sl.val
        subst hv4
        clear ho3
        go_wp2_with fail
        go_roundg (live (onceOf m).1 + (onceOf m).2.toNat)
        case measure =>
          have := HGK.out
          cases h : (onceOf m).2 with
          | true => have := once_live h; simp at *; omega
          | false => rw [once_same h]; simp at *; omega
        case rel => exact ⟨(onceOf m).1, (onceOf m).2, rfl, rfl, HO3, hid ⟨(once_len m).trans HP.out.1, (fin_once m).trans HP.out.2.1, fun h => by rw [once_same h, ← fin_end h]; exact HP.out.2.1⟩⟩
      | false =>
        have HM := hid (HP.out.2.2 rfl)
        go_wp2
        go_ret2
        unfold FoldBy
        rw [if_pos HZ.out, ← HM.out]
        exact ⟨_, rfl, HO.out⟩
  · have HZ := hid h0
    have HE : Hid (errVal (codeFault l) = .iface 24 (.int .i64 (codeFault l))) := hid (errVal_ne h0)
    clear h0
    go_enter Tryd.func10, Tryd.ntmps10
    go_wp2_with fail
    refine HC.out.mono ?_
    rintro e w1 ⟨rfl, hb1⟩
    rw [HE.out]
    have HB1 := hid hb1
    clear hb1
    go_wp2
    go_ret2
    unfold FoldBy
    rw [if_neg HZ.out]
    exact ⟨rfl, HB1.out⟩
end Go.Proofs.YtmbcjcicieiolaaDoor.folds

/- Two equal instructions; coffeehousesame.Code of one list twice. Condition: the list is not long. -/
namespace Go.Proofs.YtmbcjcicieiolaaDoor.folds
open Go.RowKit Go.Proofs.YtmbcjcicieiolaaDoor.lib Go.Proofs.YtmbcjcicieiolaaDoor.errs Go.Proofs.YtmbcjcicieiolaaDoor.names Go.Proofs.YtmbcjcicieiolaaDoor.descs Go.Proofs.YtmbcjcicieiolaaDoor.ins Go.Proofs.YtmbcjcicieiolaaDoor.flows

theorem ins_fields : Tryd.prog.underlying 37 = some (.struct (Tryd.prog.fieldsOf 37)) := by kernel_rfl
theorem ins_stood : Tryd.prog.stoodInHeld 37 = false := by kernel_rfl
theorem ins_guard : Tryd.prog.eqGuardType Tryd.prog.depth 37 = false := by kernel_rfl
theorem ins_len : (Tryd.prog.fieldsOf 37).toList.length = 6 := by kernel_rfl
theorem ins_names : (Tryd.prog.fieldsOf 37).toList.map (fun f => (f.type, f.offset, decide (f.name ≠ "_"))) = [(3, 0, true), (3, 1, true), (3, 2, true), (9, 3, true), (9, 4, true), (9, 5, true)] := by kernel_rfl

theorem part_int (w : World) (cs : Array Value) (off : Nat) (v : Value) (h : cs[off]? = some v) : (part 3 cs off).run Tryd.prog w = .ok v w := by
  simp [part, h, Result.andThen]
theorem part_str (w : World) (cs : Array Value) (off : Nat) (v : Value) (h : cs[off]? = some v) : (part 9 cs off).run Tryd.prog w = .ok v w := by
  simp [part, h, Result.andThen]

theorem eq_same (d : Nat) (op a b : Int) (t c n : ByteArray) (w : World) : (Op.equalIn (d + 2) 37 (.agg #[.int .i64 op, .int .i64 a, .int .i64 b, .string t, .string c, .string n]) (.agg #[.int .i64 op, .int .i64 a, .int .i64 b, .string t, .string c, .string n])).run Tryd.prog w = .ok true w := by
  rw [run_equalIn_agg w _ _ _ _ ins_fields ins_stood]
  have hn := ins_names
  have hl := ins_len
  generalize (Tryd.prog.fieldsOf 37).toList = fs at hn hl
  match fs, hl with
  | [f0, f1, f2, f3, f4, f5], _ =>
    simp only [List.map_cons, List.map_nil, List.cons.injEq, Prod.mk.injEq, decide_eq_true_eq, and_true] at hn
    obtain ⟨⟨t0, o0, n0⟩, ⟨t1, o1, n1⟩, ⟨t2, o2, n2⟩, ⟨t3, o3, n3⟩, ⟨t4, o4, n4⟩, t5, o5, n5⟩ := hn
    have ui := Tryd.underlying3
    have us := Tryd.underlying9
    simp only [Op.eqFields, n0, n1, n2, n3, n4, n5, t0, t1, t2, t3, t4, t5, o0, o1, o2, o3, o4, o5, ne_eq, not_false_eq_true, if_true, Sem.run_bind]
    have p0 := part_int w #[.int .i64 op, .int .i64 a, .int .i64 b, .string t, .string c, .string n] 0 (.int .i64 op) rfl
    have p1 := part_int w #[.int .i64 op, .int .i64 a, .int .i64 b, .string t, .string c, .string n] 1 (.int .i64 a) rfl
    have p2 := part_int w #[.int .i64 op, .int .i64 a, .int .i64 b, .string t, .string c, .string n] 2 (.int .i64 b) rfl
    have p3 := part_str w #[.int .i64 op, .int .i64 a, .int .i64 b, .string t, .string c, .string n] 3 (.string t) rfl
    have p4 := part_str w #[.int .i64 op, .int .i64 a, .int .i64 b, .string t, .string c, .string n] 4 (.string c) rfl
    have p5 := part_str w #[.int .i64 op, .int .i64 a, .int .i64 b, .string t, .string c, .string n] 5 (.string n) rfl
    have e0 := run_equalIn_int w d _ .i64 _ op op ui
    have e1 := run_equalIn_int w d _ .i64 _ a a ui
    have e2 := run_equalIn_int w d _ .i64 _ b b ui
    have e3 := run_equalIn_string w d _ t t us
    have e4 := run_equalIn_string w d _ c c us
    have e5 := run_equalIn_string w d _ n n us
    simp [p0, p1, p2, p3, p4, p5, e0, e1, e2, e3, e4, e5, Result.andThen]
theorem neq_same (op a b : Int) (t c n : ByteArray) (w : World) : (binOp .neq 37 (.agg #[.int .i64 op, .int .i64 a, .int .i64 b, .string t, .string c, .string n]) (.agg #[.int .i64 op, .int .i64 a, .int .i64 b, .string t, .string c, .string n])).run Tryd.prog w = .ok (.bool false) w := by
  rw [run_neq_struct, eq_same 9998]; rfl

set_option maxRecDepth 100000 in
set_option maxHeartbeats 2000000 in
/-- coffeehousesame.Code of two lists that read alike -/
theorem scode_same (va vb : Value) (l : List I) (w : World) (ha : Go.Proofs.YtmbcjcicieiolaaDoor.flows.Code w va l) (hb : Go.Proofs.YtmbcjcicieiolaaDoor.flows.Code w vb l) (hn : l.length ≤ 1000000000000) :
    Calls Tryd.prog 13 #[va, vb] w fun e w' => e = .returned (.bool true) ∧ Below w.heap.size w w' := by
  obtain ⟨a, c, rfl⟩ := ha.val
  obtain ⟨b, d, rfl⟩ := hb.val
  have HA := hid ha; have HB := hid hb
  have hg := ins_guard
  clear ha hb
  go_enter Tryd.func13, Tryd.ntmps13
  go_wp2_with fail
  go_loopw [5] (fun i wr => ∃ k : Nat, k ≤ l.length ∧ i = .int .i64 k ∧ Hid (Below w.heap.size w wr)) (fun i _ => l.length - (intOf i).toNat)
  case atStart => exact ⟨0, Nat.zero_le _, rfl, hid (Below.refl _ _)⟩
  case round =>
    obtain ⟨k, hk, rfl, HR⟩ := hrel
    by_cases hlt : k < l.length
    · obtain ⟨b1, o1, h1, hc0, hc1, hc2, hc3, hc4, hc5⟩ := code_at (HA.out.below HR.out) hlt
      obtain ⟨b2, o2, h2, hd0, hd1, hd2, hd3, hd4, hd5⟩ := code_at (HB.out.below HR.out) hlt
      subst h1
      subst h2
      have hi : (0 : Int) ≤ (k : Int) := by omega
      have hkl : (k : Int) < (l.length : Int) := by omega
      generalize l[k] = x at hc0 hc1 hc2 hc3 hc4 hc5 hd0 hd1 hd2 hd3 hd4 hd5
      obtain ⟨op, xa, xb, t, xc, xn⟩ := x
      have hq := neq_same op xa xb t xc xn
      go_wp2_with fail
      go_quiet (fail)
      go_wp2
      go_roundw
      case rel => exact ⟨k + 1, by omega, by go_num, hid (below_drewN HR.out _)⟩
      case measure => simp [intOf]; omega
    · go_wp2
      go_ret
      exact ⟨rfl, HR.out⟩
end Go.Proofs.YtmbcjcicieiolaaDoor.folds

/- Constants folded: numbers stay of 64 bits; the law's own first look (folded). Condition: the table lies in its variable. -/
set_option linter.unusedSimpArgs false
set_option linter.unusedVariables false
namespace Go.Proofs.YtmbcjcicieiolaaDoor.folds
open Go.RowKit Go.Proofs.YtmbcjcicieiolaaDoor.lib Go.Proofs.YtmbcjcicieiolaaDoor.errs Go.Proofs.YtmbcjcicieiolaaDoor.names Go.Proofs.YtmbcjcicieiolaaDoor.descs Go.Proofs.YtmbcjcicieiolaaDoor.ins Go.Proofs.YtmbcjcicieiolaaDoor.flows Go.Proofs.YtmbcjcicieiolaaDoor.nums

theorem wrap32_in (a : Int) : InR (wrap32 a) := by unfold InR wrap32; omega
theorem whole_in {k a b : Int} (ha : InR a) (hb : InR b) : InR (wholeOf k a b).1 := by
  unfold wholeOf
  repeat' split
  all_goals dsimp only
  all_goals first | with_reducible exact in_wrap _ | with_reducible exact bits_in _ _ _ | with_reducible exact tmod_in ha hb (by assumption) | (unfold InR; omega)
theorem shift_in {k a : Int} {m : Nat} {long : Bool} (ha : InR a) : InR (shiftOf k a m long) := by
  unfold shiftOf
  repeat' split
  all_goals first | with_reducible exact in_wrap _ | with_reducible exact ediv_in ha m
theorem ofOf_in {t : List UInt8} {k a b : Int} (ha : InR a) (hb : InR b) : InR (ofOf t k a b).1 := by
  unfold ofOf
  simp only
  split
  · exact wrap32_in _
  · split
    · exact shift_in ha
    · exact whole_in ha hb
theorem two_in {x y m : I} (hx : InR x.a) (h : two x y = some m) : InR m.a := by
  unfold two at h
  split at h
  · cases h
    show InR (if _ then _ else _)
    split
    · exact wrap32_in _
    · exact hx
  · split at h
    · cases h
      exact ofOf_in hx (by unfold InR; omega)
    · cases h
theorem three_in {x y z m : I} (hx : InR x.a) (hy : InR y.a) (h : three x y z = some m) : InR m.a := by
  unfold three at h
  split at h
  · cases h
    exact ofOf_in hx hy
  · cases h
theorem known_in {l : List I} (h : ∀ x ∈ l, InR x.a) : InR (knownOf l).1.a ∨ (knownOf l).2 = 0 := by
  rcases known_cases l with h0 | ⟨_, x, y, r, e, _, hm⟩ | ⟨_, x, y, z, r, e, _, hm⟩
  · exact .inr h0
  · exact .inl (two_in (h x (by rw [e]; simp)) hm)
  · exact .inl (three_in (h x (by rw [e]; simp)) (h y (by rw [e]; simp)) hm)
theorem fold_in {l : List I} {i : Nat} (hp : placeB l i = true) (h : ∀ x ∈ l, InR x.a) : ∀ x ∈ foldAt l i, InR x.a := by
  have h0 : (knownOf (l.drop i)).2 ≠ 0 := by unfold placeB at hp; simp at hp; exact hp.1.1
  have hk := (known_in (l := l.drop i) (fun x hx => h x (List.mem_of_mem_drop hx))).resolve_right h0
  intro x hx
  unfold foldAt at hx
  simp only [List.mem_append, List.mem_singleton, List.mem_replicate] at hx
  rcases hx with ((hx | rfl) | ⟨_, rfl⟩) | hx
  · exact h x (List.mem_of_mem_take hx)
  · exact hk
  · show InR 0
    unfold InR; omega
  · exact h x (List.mem_of_mem_drop hx)
/-- right code with numbers of 64 bits -/
def Fine (l : List I) : Prop := (RightC l ∧ ∀ x ∈ l, Small x) ∧ ∀ x ∈ l, InR x.a
theorem once_fine {l : List I} (h : Fine l) : Fine (onceOf l).1 := by
  refine ⟨once_right h.1, ?_⟩
  rcases once_cases l with ⟨i, _, hp, e⟩ | ⟨_, e⟩
  · rw [e]; exact fold_in hp h.2
  · rw [e]; exact h.2

def byI : ByteArray := { data := #[73] }
def byN : ByteArray := { data := #[] }
def four : List I := [⟨2, 2, 0, byI, byN, byN⟩, ⟨2, 3, 0, byI, byN, byN⟩, ⟨9, 3, 0, byI, byN, byN⟩, ⟨27, 0, 0, byN, byN, byN⟩]
def fourF : List I := [⟨2, 6, 0, byI, byN, byN⟩, nopI, nopI, ⟨27, 0, 0, byN, byN, byN⟩]
theorem four_ok : codeFault four = 0 := by decide
theorem byI_list : byI.toList = [73] := by rw [ByteArray.toList_eq]; rfl
theorem four_known : knownOf four = (⟨2, 6, 0, byI, byN, byN⟩, 3) := by
  have e1 : two ⟨2, 2, 0, byI, byN, byN⟩ ⟨2, 3, 0, byI, byN, byN⟩ = none := by simp [two, convOf, negOf]
  have e2 : ofOf byI.data.toList 3 2 3 = (6, true) := by decide +kernel
  have e3 : byOf ⟨9, 3, 0, byI, byN, byN⟩ = byI := rfl
  have e4 : three ⟨2, 2, 0, byI, byN, byN⟩ ⟨2, 3, 0, byI, byN, byN⟩ ⟨9, 3, 0, byI, byN, byN⟩ = some ⟨2, 6, 0, byI, byN, byN⟩ := by
    unfold three pushOf
    rw [e2, e3, byI_list]
    rfl
  have e5 := known_rest (x := ⟨2, 2, 0, byI, byN, byN⟩) (y := ⟨2, 3, 0, byI, byN, byN⟩) (r := [⟨9, 3, 0, byI, byN, byN⟩, ⟨27, 0, 0, byN, byN, byN⟩]) rfl e1
  refine e5.trans ?_
  show (three _ _ _).elim _ _ = _
  rw [e4]; rfl
theorem four_once : (onceOf four).1 = fourF := by
  have hp : placeB four 0 = true := by
    unfold placeB
    rw [List.drop_zero, four_known]
    decide
  rw [once_at (l := four) (i := 0) (by decide) hp (fun j hj => absurd hj (Nat.not_lt_zero _))]
  unfold foldAt
  rw [List.drop_zero, four_known]
  rfl

set_option maxRecDepth 100000 in
set_option maxHeartbeats 2000000 in
theorem folded_any (w : World) (hf : FormsAt w) : Calls Tryd.prog 7 #[] w fun e w' => e = .returned (.bool true) ∧ Below w.heap.size w w' := by
  have HF := hid hf
  have HSM : Hid (∀ x ∈ four, Small x) := hid (by
    intro x hx
    simp [four] at hx
    rcases hx with rfl | rfl | rfl | rfl <;> exact ⟨by decide, by decide, by decide⟩)
  clear hf
  go_enter Tryd.func7, Tryd.ntmps7
  go_wp2_with fail
  refine (fonce_any _ four _ (show Go.Proofs.YtmbcjcicieiolaaDoor.flows.Code _ _ four from Sl.lit _ _ 37 4 6 rfl) (HF.out.below (ext_alloc _ _)) HSM.out (by decide)).mono ?_
  intro e w3 hr3
  obtain ⟨v3, rfl, ho3⟩ := foldBy_good four_ok hr3
  rw [four_once] at ho3
  have HO3 := hid ho3
  have HB3 := hid ((ext_alloc _ _).trans (ho3.below.mono (by simp)))
  obtain ⟨a3, c3, hv3⟩ := ho3.sl.val
  subst hv3
  clear ho3 hr3
  go_wp2_with fail
  refine (scode_same _ _ fourF _ (HO3.out.sl.below (ext_alloc _ _)) (show Go.Proofs.YtmbcjcicieiolaaDoor.flows.Code _ _ fourF from Sl.lit _ _ 37 4 6 rfl) (by decide)).mono ?_
  rintro e w4 ⟨rfl, hb4⟩
  have HB4 := hid (HB3.out.trans (((ext_alloc _ _).trans (hb4.mono (by simp))).mono HB3.out.size))
  clear hb4
  go_wp2
  go_ret
  exact ⟨rfl, HB4.out⟩
end Go.Proofs.YtmbcjcicieiolaaDoor.folds
