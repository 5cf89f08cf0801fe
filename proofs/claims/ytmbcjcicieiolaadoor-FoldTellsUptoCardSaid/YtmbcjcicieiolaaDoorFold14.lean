/- Constants folded, as the document does it: goneTo, FoldOnce. Conditions: the code is right, its numbers are of 64 bits. -/
import Derived.Test.YtmbcjcicieiolaaDoorFold10
import Derived.Deep.WholeRow
import Derived.Test.YtmbcjcicieiolaaDoorFold12
import Derived.Test.YtmbcjcicieiolaaDoorFold13S9
import Derived.Test.YtmbcjcicieiolaaDoorFold13P
import Derived.Test.YtmbcjcicieiolaaDoorFlow2
import Derived.Test.YtmbcjcicieiolaaDoorErr
import Derived.Deep.LoopGhost
set_option linter.unusedSimpArgs false
set_option linter.unusedVariables false
namespace Go.Proofs.YtmbcjcicieiolaaDoor.folds
open Go.RowKit Go.Proofs.YtmbcjcicieiolaaDoor.lib Go.Proofs.YtmbcjcicieiolaaDoor.errs Go.Proofs.YtmbcjcicieiolaaDoor.names Go.Proofs.YtmbcjcicieiolaaDoor.descs Go.Proofs.YtmbcjcicieiolaaDoor.ins Go.Proofs.YtmbcjcicieiolaaDoor.flows Go.Proofs.YtmbcjcicieiolaaDoor.nums

section
variable {P : Program}
theorem wpList_store_in {ops : Array Oper} {rest : List Oper} {o : Oper} {a : Act} {w : World} {Q : Exit → Act → World → Prop} (hgd : o.guard = none) (ty : TypeId) (x y : Operand) (ho : o.op = .store ty x y)
    (g off : Nat) (cells : Array Value) (hx : a.eval x = .pointer (some ⟨g, off, none⟩)) (hy : a.eval y = .agg cells)
    (t : TypeId) (cur : Array Value) (hg : w.heap[g]? = some (.cells cur t (0, 0))) (hi : (P.info? ty).map (·.size) = some cells.size) (hl : off + cells.size ≤ cur.size) (h1 : ∀ v ∈ cells.toList, v.oneCell' = true)
    (new : Array Value) (hnew : (cur.toList.take off ++ cells.toList ++ cur.toList.drop (off + cells.size)).toArray = new)
    (h : wpList P ops Q rest (a.put o.dst undef) (w.setRow g new)) : wpList P ops Q (o :: rest) a w := by
  refine wpList_plain hgd fun K hK => ?_
  have hst := run_storeCells_at (P := P) g off t cells.toList 0 cur w hg (by simpa using hl) h1
  have e : (cur.toList.take (off + 0) ++ cells.toList ++ cur.toList.drop (off + 0 + cells.toList.length)).toArray = (cur.toList.take off ++ cells.toList ++ cur.toList.drop (off + cells.size)).toArray := by simp
  rw [e] at hst
  rw [hnew] at hst
  have hsv : (storeVar ty ⟨g, off, none⟩ (.agg cells)).run P w = .ok () (w.setRow g new) := by
    cases hq : P.info? ty with
    | none => simp [hq] at hi
    | some i =>
      have hs : cells.size = i.size := by simp [hq] at hi; omega
      simp [storeVar, sizeOf, typeInfo, hq, Value.cells, hs, hst]
  unfold Oper.wp execOp
  simp only [ho, hx, hy, Instr.storeAt, Instr.sureAddr, Sem.run_bind, Sem.run_pure, Result.andThen_ok, hsv]
  exact hK _ _ h
end

theorem Out.store_row {w0 w : World} {e : TypeId} {size : Nat} {v : Value} {n : Nat} {xs : List Value} (h : Out w0 w e size v n xs) {i : Nat} (hi : i < n) (cs : Array Value) (hcs : cs.size = size) :
    ∃ g cap cur new, v = .slice (some ⟨g, 0, none⟩) n cap ∧ n ≤ cap ∧ w.heap[g]? = some (.cells cur e (0, 0)) ∧ i * size + cs.size ≤ cur.size ∧ (cur.toList.take (i * size) ++ cs.toList ++ cur.toList.drop (i * size + cs.size)).toArray = new ∧
      Out w0 (w.setRow g new) e size v n (xs.take (i * size) ++ cs.toList ++ xs.drop ((i + 1) * size)) := by
  rcases h.own.2 with ⟨_, h0⟩ | ⟨g, cap, cur, hv, hb, hg, hn, hm, hs, ht⟩
  · omega
  · have hle : i * size + size ≤ n * size := by
      rw [← Nat.succ_mul]; exact Nat.mul_le_mul_right _ hi
    have hle2 : n * size ≤ cap * size := Nat.mul_le_mul_right _ hn
    have hcl : cur.toList.length = cap * size := by rw [Array.length_toList, hs]
    have hxl := h.own.1
    have hbel := h.below
    have e1 : (i + 1) * size = i * size + size := by rw [Nat.add_mul, Nat.one_mul]
    rw [e1]
    subst hcs
    clear e1 h hi
    refine ⟨g, cap, cur, _, hv, hn, hg, by rw [hs]; exact Nat.le_trans hle hle2, rfl, ⟨⟨?_, .inr ⟨g, cap, _, hv, hb, setRow_heap _ _ _ _ _ _ hg, hn, hm, ?_, ?_⟩⟩, Go.Proofs.YtmbcjcicieiolaaDoor.lib.below_setRow hbel hb _⟩⟩
    · simp only [List.length_append, List.length_take, List.length_drop, Array.length_toList]
      rw [hxl]
      generalize i * cs.size = A at *
      generalize n * cs.size = N at *
      omega
    · simp only [List.size_toArray, List.length_append, List.length_take, List.length_drop]
      rw [hcl, Array.length_toList]
      generalize i * cs.size = A at *
      generalize n * cs.size = N at *
      generalize cap * cs.size = C at *
      omega
    · rw [← ht]
      simp only [List.take_append, List.length_append, List.length_take, Array.length_toList]
      rw [List.take_take, List.take_take, List.drop_take, hs]
      obtain ⟨A, hA⟩ : ∃ A, i * cs.size = A := ⟨_, rfl⟩
      obtain ⟨N, hN⟩ : ∃ N, n * cs.size = N := ⟨_, rfl⟩
      obtain ⟨C, hC⟩ : ∃ C, cap * cs.size = C := ⟨_, rfl⟩
      rw [hA, hN] at hle
      rw [hN, hC] at hle2
      rw [hC] at hcl
      rw [hA, hN, hC]
      have e2 : min N A = A := by omega
      have e4 : min A N = A := by omega
      have e3 : min A C = A := by omega
      rw [e2, e3, e4, List.take_of_length_le (l := cs.toList) (by rw [Array.length_toList]; omega)]

theorem cells_put (P : List I) {j : Nat} (x : I) : (cellsOf P).take (j * 6) ++ x.cells ++ (cellsOf P).drop ((j + 1) * 6) = cellsOf (P.take j ++ [x] ++ P.drop (j + 1)) := by
  rw [cells_take, cells_drop]
  simp [cellsOf, List.flatMap_append]
/-- folded as far as k instructions -/
def partOf (l : List I) (i : Nat) (m : I) (k : Nat) : List I := (l.take i ++ [m] ++ List.replicate (k - 1) nopI) ++ l.drop (i + k)
theorem part_len {l : List I} {i k : Nat} (m : I) (hk : 1 ≤ k) (h : i + k ≤ l.length) : (partOf l i m k).length = l.length := by
  unfold partOf; simp; omega
theorem part_one {l : List I} {i : Nat} (m : I) : l.take i ++ [m] ++ l.drop (i + 1) = partOf l i m 1 := by
  unfold partOf; simp
theorem part_next {l : List I} {i k : Nat} (m : I) (hk : 1 ≤ k) (h : i + k < l.length) : (partOf l i m k).take (i + k) ++ [nopI] ++ (partOf l i m k).drop (i + k + 1) = partOf l i m (k + 1) := by
  have hA : (l.take i ++ [m] ++ List.replicate (k - 1) nopI).length = i + k := by simp; omega
  unfold partOf
  rw [← hA, List.take_left, List.drop_append, hA]
  rw [List.drop_eq_nil_of_le (by omega), List.nil_append, List.drop_drop]
  obtain ⟨j, rfl⟩ : ∃ j, k = j + 1 := ⟨k - 1, by omega⟩
  simp only [Nat.add_sub_cancel]
  rw [List.replicate_succ', ← List.append_assoc]
  congr 2
  omega

theorem goes_yes {l : List I} {k : Nat} {p : Int} (hk : k < l.length) (h1 : jumpsOp l[k].op = true) (h2 : l[k].a = p) : goesTo (l.drop k) p = true := by
  rw [List.drop_eq_getElem_cons hk]; unfold goesTo; rw [List.any_cons, h1, decide_eq_true h2]; rfl
theorem goes_no {l : List I} {k : Nat} {p : Int} (hk : k < l.length) (h : ¬ (jumpsOp l[k].op = true ∧ l[k].a = p)) : goesTo (l.drop k) p = goesTo (l.drop (k + 1)) p := by
  rw [List.drop_eq_getElem_cons hk]; unfold goesTo; rw [List.any_cons]
  cases hj : jumpsOp l[k].op with
  | false => rfl
  | true => rw [decide_eq_false (fun e => h ⟨hj, e⟩)]; rfl
theorem goes_end {l : List I} {k : Nat} {p : Int} (hk : ¬ k < l.length) : goesTo (l.drop k) p = false := by
  rw [List.drop_eq_nil_of_le (by omega)]; rfl

set_option maxRecDepth 100000 in
set_option maxHeartbeats 2000000 in
theorem rgone_any (va : Value) (l : List I) (p : Int) (w : World) (ha : Go.Proofs.YtmbcjcicieiolaaDoor.flows.Code w va l) (hn : l.length ≤ 2000000) :
    Calls Tryd.prog 28 #[va, .int .i64 p] w fun e w' => e = .returned (.bool (goesTo l p)) ∧ w = w' := by
  obtain ⟨a, c, rfl⟩ := ha.val
  have HA := hid ha
  clear ha
  go_enter Tryd.func28, Tryd.ntmps28
  go_wp2_with fail
  go_loopw [5] (fun i wr => ∃ k : Nat, k ≤ l.length ∧ i = .int .i64 k ∧ w = wr ∧ Hid (goesTo l p = goesTo (l.drop k) p)) (fun i _ => l.length - (intOf i).toNat)
  case atStart => exact ⟨0, Nat.zero_le _, rfl, rfl, hid rfl⟩
  case round =>
    obtain ⟨k, hk, rfl, hww, HG⟩ := hrel
    subst hww
    by_cases hlt : k < l.length
    · obtain ⟨bb, off, hab, hd0, hd1, hd2, hd3, hd4, hd5⟩ := code_at HA.out hlt
      subst hab
      have hi : (0 : Int) ≤ (k : Int) := by omega
      have hkl : (k : Int) < (l.length : Int) := by omega
      have HY := hid (fun h1 h2 => goes_yes (p := p) hlt h1 h2)
      have HN := hid (fun h => goes_no (p := p) hlt h)
      generalize l[k] = x at hd0 hd1 hd2 hd3 hd4 hd5 HY HN
      obtain ⟨op, xa, xb, t, xc, xn⟩ := x
      simp only at hd0 hd1 hd2 hd3 hd4 hd5 HY HN
      cases hj : jumpsOp op with
      | true =>
        have HJ := hid hj
        by_cases hap : xa = p
        · have HT : Hid (goesTo l p = true) := hid (HG.out.trans (HY.out hj hap))
          have e1 : (xa == p) = true := by simpa using hap
          clear hj hap
          go_wp2_with fail
          refine (rjumps_any _ _).mono ?_
          rintro e wj ⟨rfl, hww⟩
          obtain rfl := hww.symm
          rw [HJ.out]
          go_wp2
          go_ret
          rw [HT.out]
          exact ⟨rfl, rfl⟩
        · have HT := hid (HG.out.trans (HN.out (fun h => hap h.2)))
          have e1 : (xa == p) = false := by simpa using hap
          clear hj hap
          go_wp2_with fail
          refine (rjumps_any _ _).mono ?_
          rintro e wj ⟨rfl, hww⟩
          obtain rfl := hww.symm
          rw [HJ.out]
          go_wp2
          go_roundw
          case rel => exact ⟨k + 1, by omega, by go_num, trivial, HT⟩
          case measure => simp [intOf]; omega
      | false =>
        have HJ := hid hj
        have HT := hid (HG.out.trans (HN.out (fun h => by rw [hj] at h; cases h.1)))
        clear hj
        go_wp2_with fail
        refine (rjumps_any _ _).mono ?_
        rintro e wj ⟨rfl, hww⟩
        obtain rfl := hww.symm
        rw [HJ.out]
        go_wp2
        go_roundw
        case rel => exact ⟨k + 1, by omega, by go_num, trivial, HT⟩
        case measure => simp [intOf]; omega
    · have hge : ¬ (k : Int) < (l.length : Int) := by omega
      have HT : Hid (goesTo l p = false) := hid (HG.out.trans (goes_end hlt))
      go_wp2
      go_ret
      rw [HT.out]
      exact ⟨rfl, rfl⟩
end Go.Proofs.YtmbcjcicieiolaaDoor.folds

/- Constants folded, as the document does it: FoldAt where two pushes and an operation stand. Conditions: the code is right, its numbers are of 64 bits. -/
set_option linter.unusedSimpArgs false
set_option linter.unusedVariables false
namespace Go.Proofs.YtmbcjcicieiolaaDoor.folds
open Go.RowKit Go.Proofs.YtmbcjcicieiolaaDoor.lib Go.Proofs.YtmbcjcicieiolaaDoor.errs Go.Proofs.YtmbcjcicieiolaaDoor.names Go.Proofs.YtmbcjcicieiolaaDoor.descs Go.Proofs.YtmbcjcicieiolaaDoor.ins Go.Proofs.YtmbcjcicieiolaaDoor.flows Go.Proofs.YtmbcjcicieiolaaDoor.nums

/-- FoldAt, all of it -/
theorem foldAt_any (va : Value) (l : List I) (i : Nat) (w : World) (ha : Go.Proofs.YtmbcjcicieiolaaDoor.flows.Code w va l) (hn : l.length ≤ 2000000) (hs : ∀ x ∈ l, Sound x) (hi : i < l.length) :
    Calls Tryd.prog 27 #[va, .int .i64 i] w fun e w' => e = .returned (.tuple #[(knownOf (l.drop i)).1.val, .int .i64 (knownOf (l.drop i)).2]) ∧ Below w.heap.size w w' := by
  obtain ⟨a, c, rfl⟩ := ha.val
  obtain ⟨b, off, rfl, _⟩ := code_at ha hi
  have hx : l[i]? = some l[i] := List.getElem?_eq_getElem hi
  have hX := hs _ (List.getElem_mem hi)
  generalize l[i] = x at hx hX
  by_cases h2 : x.op = 2
  · by_cases hi1 : i + 1 < l.length
    · have hy : l[i + 1]? = some l[i + 1] := List.getElem?_eq_getElem hi1
      have hY := hs _ (List.getElem_mem hi1)
      generalize l[i + 1] = y at hy hY
      by_cases c1 : y.op = 10
      · cases ct : (x.t.toList == y.t.toList) with
        | true => exact fa_conv_same l i b off c w ha hn x y hx hy h2 c1 ct
        | false =>
          cases cw : (y.t.toList == [73]) with
          | true => exact fa_conv_I l i b off c w ha hn x y hx hy h2 c1 ct cw hX.2.2.1
          | false => exact fa_conv_J l i b off c w ha hn x y hx hy h2 c1 ct cw hX.2.2.1
      · by_cases c2 : y.op = 9
        · by_cases c3 : y.a = 12
          · cases ct : (x.t.toList == y.t.toList) with
            | true => exact fa_neg l i b off c w ha hn x y hx hy h2 c2 c3 ct hX hY
            | false => exact fa_neg_other l i b off c w ha hn x y hx hy h2 c2 c3 ct
          · exact fa_math l i b off c w ha hn x y hx hy h2 c2 c3
        · by_cases c3 : y.op = 2
          · by_cases hi2 : i + 2 < l.length
            · have hz : l[i + 2]? = some l[i + 2] := List.getElem?_eq_getElem hi2
              have hZ := hs _ (List.getElem_mem hi2)
              generalize l[i + 2] = z at hz hZ
              by_cases c4 : z.op = 9
              · by_cases c5 : z.a = 12
                · exact fa_z12 l i b off c w ha hn x y hx hy h2 c3 z hz c4 c5
                · by_cases c6 : z.a = 9
                  · exact fa_shift9 l i b off c w ha hn x y hx hy h2 c3 z hz c4 c5 c6 hX hY hZ
                  · by_cases c7 : z.a = 10
                    · exact fa_shift10 l i b off c w ha hn x y hx hy h2 c3 z hz c4 c5 c7 hX hY hZ
                    · by_cases c8 : z.a = 11
                      · exact fa_shift11 l i b off c w ha hn x y hx hy h2 c3 z hz c4 c5 c8 hX hY hZ
                      · exact fa_plain l i b off c w ha hn x y hx hy h2 c3 z hz c4 c5 c6 c7 c8 hX hY hZ
              · exact fa_nomath l i b off c w ha hn x y hx hy h2 c3 z hz c4
            · exact fa_push2 l i b off c w ha hn x y hx hy h2 c3 hi2
          · exact fa_oth l i b off c w ha hn x y hx hy h2 c1 c2 c3
    · exact fa_last l i b off c w ha hn x hx h2 hi1
  · exact fa_nopush l i b off c w ha hn x hx h2
end Go.Proofs.YtmbcjcicieiolaaDoor.folds

/- Constants folded, as the document does it: FoldOnce. Conditions: the code is right, its numbers are of 64 bits. -/
set_option linter.unusedSimpArgs false
set_option linter.unusedVariables false
namespace Go.Proofs.YtmbcjcicieiolaaDoor.folds
open Go.RowKit Go.Proofs.YtmbcjcicieiolaaDoor.lib Go.Proofs.YtmbcjcicieiolaaDoor.errs Go.Proofs.YtmbcjcicieiolaaDoor.names Go.Proofs.YtmbcjcicieiolaaDoor.descs Go.Proofs.YtmbcjcicieiolaaDoor.ins Go.Proofs.YtmbcjcicieiolaaDoor.flows Go.Proofs.YtmbcjcicieiolaaDoor.nums

set_option maxRecDepth 100000 in
set_option maxHeartbeats 8000000 in
theorem ronce_any (va : Value) (l : List I) (w : World) (ha : Go.Proofs.YtmbcjcicieiolaaDoor.flows.Code w va l) (hn : l.length ≤ 2000000) (hs : ∀ x ∈ l, Sound x) :
    Calls Tryd.prog 12 #[va] w fun e w' => ∃ v, e = .returned (.tuple #[v, .bool (onceOf l).2]) ∧ Out w w' 37 6 v (onceOf l).1.length (cellsOf (onceOf l).1) := by
  have HS := hid hs
  have HA := hid ha
  have HE := hid (one_cellsL l)
  have HM := hid (Out.made w 37 6)
  have HS2 := hid (ha.below (ext_alloc w (.cells #[] 37)))
  obtain ⟨a, c, rfl⟩ := ha.val
  clear ha hs
  go_enter Tryd.func12, Tryd.ntmps12
  go_wp2_with (at_builtin; refine wpList_append_src w _ rfl _ _ 22 rfl 37 _ 6 72 l.length Tryd.underlying22 infoI rfl (by decide) _ 0 [] HM.out rfl _ (cellsOf l) HS2.out rfl HE.out ?_ ?_ ?_)
  all_goals first | (intro v1 w1 ho hg) | omega | skip
  have HO : Hid (Out w w1 37 6 v1 l.length (cellsOf l)) := hid (by simpa using ho)
  obtain ⟨a1, c1, hv⟩ := HO.out.sl.val
  subst hv
  clear ho hg HM HS2
  go_wp2_with fail
  go_loopw [5] (fun i wr => ∃ k : Nat, k ≤ l.length ∧ i = .int .i64 k ∧ Hid (Out w wr 37 6 (.slice a1 l.length c1) l.length (cellsOf l)) ∧ Hid (∀ j, j < k → placeB l j = false)) (fun i _ => l.length - (intOf i).toNat)
  case atStart => exact ⟨0, Nat.zero_le _, rfl, HO, hid (fun j hj => absurd hj (Nat.not_lt_zero _))⟩
  case round =>
    obtain ⟨i, hi, rfl, HO2, HNO⟩ := hrel
    obtain ⟨W0, hW0⟩ : ∃ W0, W0 = wr := ⟨_, rfl⟩
    subst hW0
    by_cases hlt : i < l.length
    · have hi0 : (0 : Int) ≤ (i : Int) := by omega
      have hil : (i : Int) < (l.length : Int) := by omega
      have i7 : ((i : Int) + 1).toNat = i + 1 := by omega
      have i8 : IntKind.i64.wrap ((i : Int) + 1) = (i : Int) + 1 := by rw [IntKind.wrap_i64]; omega
      have j8 : IntKind.i64.wrap ((i : Int) + 2) = (i : Int) + 2 := by rw [IntKind.wrap_i64]; omega
      obtain ⟨⟨⟨mo, ma, mb, mt, mc, mn⟩, n⟩, hK⟩ : ∃ p, knownOf (l.drop i) = p := ⟨_, rfl⟩
      have HKN : Hid (Calls Tryd.prog 27 #[.slice a l.length c, .int .i64 i] W0 fun e w' => e = .returned (.tuple #[.agg #[.int .i64 mo, .int .i64 ma, .int .i64 mb, .string mt, .string mc, .string mn], .int .i64 n]) ∧ Below W0.heap.size W0 w') := hid (by
        have := foldAt_any (.slice a l.length c) l i W0 (HA.out.below HO2.out.below) hn HS.out hlt
        rw [hK] at this; exact this)
      have HPL : Hid (∀ b, (n = 0 → b = false) → (n ≠ 0 → b = (!goesTo l ((i : Int) + 1) && !goesTo l ((i : Int) + n - 1))) → placeB l i = b) := hid (fun b h0 h1 => by
        unfold placeB; rw [hK]
        by_cases hn0 : n = 0
        · subst hn0; rw [h0 rfl]; rfl
        · have hb : (n != 0) = true := by simpa using hn0
          rw [h1 hn0, hb]; simp)
      have HN3 : Hid (n ≠ 0 → 2 ≤ n ∧ n ≤ 3 ∧ i + n ≤ l.length) := hid (fun hn0 => by
        have hlen : (l.drop i).length = l.length - i := List.length_drop
        rcases known_cases (l.drop i) with h | ⟨h, x, y, r, e, _⟩ | ⟨h, x, y, z, r, e, _⟩
        · rw [hK] at h; exact absurd h hn0
        · rw [hK] at h; rw [e] at hlen; simp at hlen h; omega
        · rw [hK] at h; rw [e] at hlen; simp at hlen h; omega)
      have HFA : Hid (foldAt l i = partOf l i ⟨mo, ma, mb, mt, mc, mn⟩ n) := hid (by unfold foldAt partOf; rw [hK])
      clear hK
      go_wp2_with fail
      refine HKN.out.mono ?_
      rintro e w2 ⟨rfl, hb2⟩
      obtain ⟨X1, hX1⟩ : ∃ X1, w2.alloc (.cells #[.int .i64 mo, .int .i64 ma, .int .i64 mb, .string mt, .string mc, .string mn] 37) = X1 := ⟨_, rfl⟩
      have HE1 : Hid (Below w2.heap.size w2 X1) := hid (hX1 ▸ ext_alloc _ _)
      have HM1 : Hid (X1.heap[w2.heap.size]? = some (.cells #[.int .i64 mo, .int .i64 ma, .int .i64 mb, .string mt, .string mc, .string mn] 37)) := hid (hX1 ▸ heap_alloc_last _ _)
      have m0 : X1.cell? ⟨w2.heap.size, 0, none⟩ = some (.int .i64 mo) := by rw [cell_of_row _ _ _ _ _ _ HM1.out]; rfl
      have m1 : X1.cell? ⟨w2.heap.size, 1, none⟩ = some (.int .i64 ma) := by rw [cell_of_row _ _ _ _ _ _ HM1.out]; rfl
      have m2 : X1.cell? ⟨w2.heap.size, 2, none⟩ = some (.int .i64 mb) := by rw [cell_of_row _ _ _ _ _ _ HM1.out]; rfl
      have m3 : X1.cell? ⟨w2.heap.size, 3, none⟩ = some (.string mt) := by rw [cell_of_row _ _ _ _ _ _ HM1.out]; rfl
      have m4 : X1.cell? ⟨w2.heap.size, 4, none⟩ = some (.string mc) := by rw [cell_of_row _ _ _ _ _ _ HM1.out]; rfl
      have m5 : X1.cell? ⟨w2.heap.size, 5, none⟩ = some (.string mn) := by rw [cell_of_row _ _ _ _ _ _ HM1.out]; rfl
      have HOX : Hid (Out w X1 37 6 (.slice a1 l.length c1) l.length (cellsOf l)) := hid ((HO2.out.later hb2).later HE1.out)
      clear hb2
      by_cases hn0 : n = 0
      · have HPF := hid (HPL.out false (fun _ => rfl) (fun h => absurd hn0 h))
        subst hn0
        go_wp2_with fail
        go_roundw
        case rel => exact ⟨i + 1, by omega, by go_num, HOX, hid (fun j hj => by
          rcases Nat.lt_or_ge j i with h | h
          · exact HNO.out j h
          · obtain rfl : j = i := by omega
            exact HPF.out)⟩
        case measure => simp [intOf]; omega
      · obtain ⟨hn2, hn3, hnl⟩ := HN3.out hn0
        have hn0' : ((n : Int) == 0) = false := by simp; omega
        have HP1 := hid (fun b (h : b = (!goesTo l ((i : Int) + 1) && !goesTo l ((i : Int) + n - 1))) => HPL.out b (fun h => absurd h hn0) (fun _ => h))
        obtain ⟨G1, hG1⟩ : ∃ G, goesTo l ((i : Int) + 1) = G := ⟨_, rfl⟩
        have HG1 := hid hG1
        clear hG1
        cases G1 with
        | true =>
          have HPF := hid (HP1.out false (by rw [HG1.out]; rfl))
          go_wp2_with fail
          refine (rgone_any _ l _ _ (HA.out.below HOX.out.below) hn).mono ?_
          rintro e wj ⟨rfl, hww⟩
          subst hww
          rw [HG1.out]
          go_wp2_with fail
          go_roundw
          case rel => exact ⟨i + 1, by omega, by go_num, HOX, hid (fun j hj => by
            rcases Nat.lt_or_ge j i with h | h
            · exact HNO.out j h
            · obtain rfl : j = i := by omega
              exact HPF.out)⟩
          case measure => simp [intOf]; omega
        | false =>
          by_cases hn3e : n = 3
          · have e3 : ((n : Int) == 3) = true := by rw [hn3e]; rfl
            obtain ⟨G2, hG2⟩ : ∃ G, goesTo l ((i : Int) + 2) = G := ⟨_, rfl⟩
            have HG2 := hid hG2
            have HGE : Hid ((i : Int) + n - 1 = (i : Int) + 2) := hid (by omega)
            clear hG2 hn3e
            cases G2 with
            | true =>
              have HPF := hid (HP1.out false (by rw [HG1.out, HGE.out, HG2.out]; rfl))
              go_wp2_with fail
              refine (rgone_any _ l _ _ (HA.out.below HOX.out.below) hn).mono ?_
              rintro e wj ⟨rfl, hww⟩
              subst hww
              rw [HG1.out]
              go_wp2_with fail
              refine (rgone_any _ l _ _ (HA.out.below HOX.out.below) hn).mono ?_
              rintro e wj ⟨rfl, hww⟩
              subst hww
              rw [HG2.out]
              go_wp2_with fail
              go_roundw
              case rel => exact ⟨i + 1, by omega, by go_num, HOX, hid (fun j hj => by
                rcases Nat.lt_or_ge j i with h | h
                · exact HNO.out j h
                · obtain rfl : j = i := by omega
                  exact HPF.out)⟩
              case measure => simp [intOf]; omega
            | false =>
              have HPT := hid (HP1.out true (by rw [HG1.out, HGE.out, HG2.out]; rfl))
              go_wp2_with fail
              refine (rgone_any _ l _ _ (HA.out.below HOX.out.below) hn).mono ?_
              rintro e wj ⟨rfl, hww⟩
              subst hww
              rw [HG1.out]
              go_wp2_with fail
              refine (rgone_any _ l _ _ (HA.out.below HOX.out.below) hn).mono ?_
              rintro e wj ⟨rfl, hww⟩
              subst hww
              rw [HG2.out]
              have HON : Hid (onceOf l = (foldAt l i, true)) := hid (once_at hlt HPT.out HNO.out)
              obtain ⟨g, cap, cur, new, hv, hcap, hcur, hle, hnew, hOut⟩ := Out.store_row HOX.out hlt #[.int .i64 mo, .int .i64 ma, .int .i64 mb, .string mt, .string mc, .string mn] rfl
              simp only [Value.slice.injEq] at hv
              obtain ⟨hv1, _, hv2⟩ := hv
              subst hv1 hv2
              have HCUR := hid hcur
              have HLE := hid hle
              have HNEW := hid hnew
              have HO1 := hid hOut
              rw [show (#[.int .i64 mo, .int .i64 ma, .int .i64 mb, .string mt, .string mc, .string mn] : Array Value).toList = I.cells ⟨mo, ma, mb, mt, mc, mn⟩ from rfl, cells_put, part_one] at HO1
              clear hcur hle hnew hOut
              go_wp2_with (refine wpList_store_in rfl 37 (.tmp 45) (.tmp 44) rfl g (i * 6) #[.int .i64 mo, .int .i64 ma, .int .i64 mb, .string mt, .string mc, .string mn] rfl rfl 37 cur HCUR.out (by kernel_rfl) HLE.out (by simp [Value.oneCell']) new HNEW.out ?_)
              go_loopw [8] (fun q wr => ∃ k : Nat, 1 ≤ k ∧ k ≤ n ∧ q = .int .i64 k ∧ Hid (Out w wr 37 6 (.slice (some ⟨g, 0, none⟩) l.length c1) l.length (cellsOf (partOf l i ⟨mo, ma, mb, mt, mc, mn⟩ k)))) (fun q _ => n - (intOf q).toNat)
              case atStart => exact ⟨1, Nat.le_refl _, by omega, rfl, HO1⟩
              case round =>
                obtain ⟨k, hk1, hk2, rfl, HOK⟩ := hrel
                by_cases hkn : k < n
                · have hk0 : (0 : Int) ≤ (k : Int) := by omega
                  have hkn2 : (k : Int) < (n : Int) := by omega
                  have hk3 : (k : Int) ≤ 3 := by omega
                  obtain ⟨j, hj⟩ : ∃ j, i + k = j := ⟨_, rfl⟩
                  have hjn : (i : Int) + (k : Int) = (j : Int) := by omega
                  have hj0 : (0 : Int) ≤ (j : Int) := by omega
                  have hjl : (j : Int) < (l.length : Int) := by omega
                  obtain ⟨g', cap', cur', new', hv', hcap', hcur', hle', hnew', hOut'⟩ := Out.store_row HOK.out (i := j) (by omega) #[.int .i64 1, .int .i64 0, .int .i64 0, .string { data := #[] }, .string { data := #[] }, .string { data := #[] }] rfl
                  simp only [Value.slice.injEq, Option.some.injEq, Addr.mk.injEq, and_true] at hv'
                  obtain ⟨hv3, _, hv4⟩ := hv'
                  subst hv3 hv4
                  have HCUR := hid hcur'
                  have HLE := hid hle'
                  have HNEW := hid hnew'
                  have HO2 := hid hOut'
                  rw [show (#[.int .i64 1, .int .i64 0, .int .i64 0, .string { data := #[] }, .string { data := #[] }, .string { data := #[] }] : Array Value).toList = nopI.cells from rfl, cells_put, ← hj, part_next _ hk1 (by omega)] at HO2
                  clear hcur' hle' hnew' hOut' hj
                  go_wp2_with (refine wpList_store_in rfl 37 (.tmp 56) (.tmp 55) rfl g (j * 6) #[.int .i64 1, .int .i64 0, .int .i64 0, .string { data := #[] }, .string { data := #[] }, .string { data := #[] }] rfl rfl 37 cur' HCUR.out (by kernel_rfl) HLE.out (by simp [Value.oneCell']) new' HNEW.out ?_)
                  go_roundw
                  case rel => exact ⟨k + 1, by omega, by omega, by go_num, HO2⟩
                  case measure => simp [intOf]; omega
                · have hkk : k = n := by omega
                  have hge : ¬ (k : Int) < (n : Int) := by omega
                  have HOF : Hid (Out w wr 37 6 (.slice (some ⟨g, 0, none⟩) l.length c1) (foldAt l i).length (cellsOf (foldAt l i))) := hid (by
                    have h := HOK.out
                    rw [hkk] at h
                    rw [fold_len HPT.out, HFA.out]; exact h)
                  clear hkk
                  go_wp2
                  go_ret2
                  rw [HON.out]
                  exact ⟨_, rfl, HOF.out⟩
          · have e3 : ((n : Int) == 3) = false := by simp; omega
            have HGE : Hid ((i : Int) + n - 1 = (i : Int) + 1) := hid (by omega)
            have HPT := hid (HP1.out true (by rw [HGE.out, HG1.out]; rfl))
            clear hn3e
            go_wp2_with fail
            refine (rgone_any _ l _ _ (HA.out.below HOX.out.below) hn).mono ?_
            rintro e wj ⟨rfl, hww⟩
            subst hww
            rw [HG1.out]
            have HON : Hid (onceOf l = (foldAt l i, true)) := hid (once_at hlt HPT.out HNO.out)
            obtain ⟨g, cap, cur, new, hv, hcap, hcur, hle, hnew, hOut⟩ := Out.store_row HOX.out hlt #[.int .i64 mo, .int .i64 ma, .int .i64 mb, .string mt, .string mc, .string mn] rfl
            simp only [Value.slice.injEq] at hv
            obtain ⟨hv1, _, hv2⟩ := hv
            subst hv1 hv2
            have HCUR := hid hcur
            have HLE := hid hle
            have HNEW := hid hnew
            have HO1 := hid hOut
            rw [show (#[.int .i64 mo, .int .i64 ma, .int .i64 mb, .string mt, .string mc, .string mn] : Array Value).toList = I.cells ⟨mo, ma, mb, mt, mc, mn⟩ from rfl, cells_put, part_one] at HO1
            clear hcur hle hnew hOut
            go_wp2_with (refine wpList_store_in rfl 37 (.tmp 45) (.tmp 44) rfl g (i * 6) #[.int .i64 mo, .int .i64 ma, .int .i64 mb, .string mt, .string mc, .string mn] rfl rfl 37 cur HCUR.out (by kernel_rfl) HLE.out (by simp [Value.oneCell']) new HNEW.out ?_)
            go_loopw [8] (fun q wr => ∃ k : Nat, 1 ≤ k ∧ k ≤ n ∧ q = .int .i64 k ∧ Hid (Out w wr 37 6 (.slice (some ⟨g, 0, none⟩) l.length c1) l.length (cellsOf (partOf l i ⟨mo, ma, mb, mt, mc, mn⟩ k)))) (fun q _ => n - (intOf q).toNat)
            case atStart => exact ⟨1, Nat.le_refl _, by omega, rfl, HO1⟩
            case round =>
              obtain ⟨k, hk1, hk2, rfl, HOK⟩ := hrel
              by_cases hkn : k < n
              · have hk0 : (0 : Int) ≤ (k : Int) := by omega
                have hkn2 : (k : Int) < (n : Int) := by omega
                have hk3 : (k : Int) ≤ 3 := by omega
                obtain ⟨j, hj⟩ : ∃ j, i + k = j := ⟨_, rfl⟩
                have hjn : (i : Int) + (k : Int) = (j : Int) := by omega
                have hj0 : (0 : Int) ≤ (j : Int) := by omega
                have hjl : (j : Int) < (l.length : Int) := by omega
                obtain ⟨g', cap', cur', new', hv', hcap', hcur', hle', hnew', hOut'⟩ := Out.store_row HOK.out (i := j) (by omega) #[.int .i64 1, .int .i64 0, .int .i64 0, .string { data := #[] }, .string { data := #[] }, .string { data := #[] }] rfl
                simp only [Value.slice.injEq, Option.some.injEq, Addr.mk.injEq, and_true] at hv'
                obtain ⟨hv3, _, hv4⟩ := hv'
                subst hv3 hv4
                have HCUR := hid hcur'
                have HLE := hid hle'
                have HNEW := hid hnew'
                have HO2 := hid hOut'
                rw [show (#[.int .i64 1, .int .i64 0, .int .i64 0, .string { data := #[] }, .string { data := #[] }, .string { data := #[] }] : Array Value).toList = nopI.cells from rfl, cells_put, ← hj, part_next _ hk1 (by omega)] at HO2
                clear hcur' hle' hnew' hOut' hj
                go_wp2_with (refine wpList_store_in rfl 37 (.tmp 56) (.tmp 55) rfl g (j * 6) #[.int .i64 1, .int .i64 0, .int .i64 0, .string { data := #[] }, .string { data := #[] }, .string { data := #[] }] rfl rfl 37 cur' HCUR.out (by kernel_rfl) HLE.out (by simp [Value.oneCell']) new' HNEW.out ?_)
                go_roundw
                case rel => exact ⟨k + 1, by omega, by omega, by go_num, HO2⟩
                case measure => simp [intOf]; omega
              · have hkk : k = n := by omega
                have hge : ¬ (k : Int) < (n : Int) := by omega
                have HOF : Hid (Out w wr 37 6 (.slice (some ⟨g, 0, none⟩) l.length c1) (foldAt l i).length (cellsOf (foldAt l i))) := hid (by
                  have h := HOK.out
                  rw [hkk] at h
                  rw [fold_len HPT.out, HFA.out]; exact h)
                clear hkk
                go_wp2
                go_ret2
                rw [HON.out]
                exact ⟨_, rfl, HOF.out⟩
    · have HON : Hid (onceOf l = (l, false)) := hid (once_no (fun j hj => HNO.out j (by omega)))
      have hge : ¬ (i : Int) < (l.length : Int) := by omega
      go_wp2
      go_ret2
      rw [HON.out]
      exact ⟨_, rfl, HO2.out⟩
end Go.Proofs.YtmbcjcicieiolaaDoor.folds

/- The law FoldTells: its walk. Conditions: the table lies in its variable; the code is not long; its numbers are of 64 bits. -/
set_option linter.unusedSimpArgs false
set_option linter.unusedVariables false
namespace Go.Proofs.YtmbcjcicieiolaaDoor.folds
open Go.RowKit Go.Proofs.YtmbcjcicieiolaaDoor.lib Go.Proofs.YtmbcjcicieiolaaDoor.errs Go.Proofs.YtmbcjcicieiolaaDoor.names Go.Proofs.YtmbcjcicieiolaaDoor.descs Go.Proofs.YtmbcjcicieiolaaDoor.ins Go.Proofs.YtmbcjcicieiolaaDoor.flows Go.Proofs.YtmbcjcicieiolaaDoor.nums

theorem fine_sound {m : List I} (h : Fine m) : ∀ x ∈ m, Sound x := fun x hx => sound_of (h.1.1.2.1 x hx) (h.2 x hx)

set_option maxRecDepth 100000 in
set_option maxHeartbeats 4000000 in
theorem foldtells_any (va : Value) (l : List I) (w : World) (ha : Go.Proofs.YtmbcjcicieiolaaDoor.flows.Code w va l) (hf : FormsAt w) (hs : ∀ x ∈ l, Small x) (hi : ∀ x ∈ l, InR x.a) (hn : l.length ≤ 2000000) :
    Calls Tryd.prog 3 #[va] w fun e w' => e = .returned (.bool true) ∧ Below w.heap.size w w' := by
  have HA := hid ha; have HF := hid hf; have HS := hid hs; have HI := hid hi
  obtain ⟨a, c, rfl⟩ := ha.val
  clear ha hf hs hi
  by_cases h0 : codeFault l = 0
  · have HZ := hid h0
    have HFI : Hid (Fine l) := hid ⟨⟨(code_iff l).1 h0, HS.out⟩, HI.out⟩
    have hl40 := ((code_iff l).1 h0).1
    clear h0
    go_enter Tryd.func3, Tryd.ntmps3
    go_wp2_with fail
    refine (folded_any _ HF.out).mono ?_
    rintro e w1 ⟨rfl, hb1⟩
    have HB1 := hid hb1
    clear hb1
    go_wp2_with fail
    refine (codeFault_any _ l _ (HA.out.below HB1.out) HS.out (by omega)).mono ?_
    rintro e w2 ⟨rfl, hb2⟩
    have HB2 := hid (HB1.out.trans (hb2.mono HB1.out.size))
    rw [HZ.out]
    clear hb2
    go_wp2_with fail
    refine (fonce_any _ l _ (HA.out.below HB2.out) (HF.out.below HB2.out) HS.out hn).mono ?_
    intro e w3 hr3
    obtain ⟨v3, rfl, ho3⟩ := foldBy_good HZ.out hr3
    have HO3 := hid (Out.since HB2.out ho3)
    obtain ⟨a3, c3, hv3⟩ := ho3.sl.val
    subst hv3
    clear ho3 hr3
    go_wp2_with fail
    refine (fall_any _ l _ (HA.out.below HO3.out.below) (HF.out.below HO3.out.below) HS.out hn).mono ?_
    intro e w4 hr4
    obtain ⟨v4, rfl, ho4⟩ := foldBy_good HZ.out hr4
    have HO4 := hid (Out.since HO3.out.below ho4)
    have HO34 := hid (HO3.out.later ho4.below)
    obtain ⟨a4, c4, hv4⟩ := ho4.sl.val
    subst hv4
    clear ho4 hr4
    go_wp2_with fail
    refine (error_ok _).mono ?_
    rintro e w5 ⟨rfl, hww⟩
    obtain rfl := hww.symm
    go_wp2_with fail
    refine (error_ok _).mono ?_
    rintro e w5 ⟨rfl, hww⟩
    obtain rfl := hww.symm
    go_wp2_with fail
    refine (ronce_any _ l _ (HA.out.below HO4.out.below) hn (fine_sound HFI.out)).mono ?_
    rintro e w6 ⟨v6, rfl, ho6⟩
    have HO6 := hid (Out.since HO4.out.below ho6)
    have HO36 := hid (HO34.out.later ho6.below)
    have HO46 := hid (HO4.out.later ho6.below)
    obtain ⟨a6, c6, hv6⟩ := ho6.sl.val
    subst hv6
    clear ho6
    go_wp2_with fail
    go_loopg [12, 13] (live (onceOf l).1 + 1) (fun k v b wr => ∃ (m : List I) (more : Bool), b = .bool more ∧ k = live m + more.toNat ∧ Hid (Out w wr 37 6 v m.length (cellsOf m)) ∧ Hid (Below w6.heap.size w6 wr) ∧ Hid (Fine m ∧ m.length = l.length ∧ finOf m = finOf l ∧ (more = false → m = finOf l)))
    case atStart => exact ⟨(onceOf l).1, true, rfl, rfl, HO6, hid (Below.refl _ _), hid ⟨once_fine HFI.out, once_len l, fin_once l, fun h => by cases h⟩⟩
    case round =>
      obtain ⟨m, more, rfl, hgk, HO, HBR, HP⟩ := hrel
      have HGK := hid hgk
      clear hgk
      obtain ⟨a7, c7, hv7⟩ := HO.out.sl.val
      subst hv7
      cases more with
      | true =>
        go_wp2_with fail
        refine (ronce_any _ m _ HO.out.sl (by have := HP.out.2.1; omega) (fine_sound HP.out.1)).mono ?_
        rintro e w8 ⟨v8, rfl, ho8⟩
        have HO8 := hid (Out.since HO.out.below ho8)
        have HB8 := hid (HBR.out.trans (ho8.below.mono HBR.out.size))
        obtain ⟨a8, c8, hv8⟩ := ho8.sl.val
        subst hv8
        clear ho8
        go_wp2_with fail
        go_roundg (live (onceOf m).1 + (onceOf m).2.toNat)
        case measure =>
          have := HGK.out
          cases h : (onceOf m).2 with
          | true => have := once_live h; simp at *; omega
          | false => rw [once_same h]; simp at *; omega
        case rel => exact ⟨(onceOf m).1, (onceOf m).2, rfl, rfl, HO8, HB8, hid ⟨once_fine HP.out.1, (once_len m).trans HP.out.2.1, (fin_once m).trans HP.out.2.2.1, fun h => by rw [once_same h, ← fin_end h]; exact HP.out.2.2.1⟩⟩
      | false =>
        have HM := hid (HP.out.2.2.2 rfl)
        go_wp2_with fail
        refine (scode_same _ _ (onceOf l).1 _ (HO36.out.sl.below HBR.out) (HO6.out.sl.below HBR.out) (by have := once_len l; omega)).mono ?_
        rintro e w9 ⟨rfl, hb9⟩
        have HB9 := hid hb9
        clear hb9
        go_wp2_with fail
        refine (scode_same (.slice a4 (finOf l).length c4) _ m _ (by rw [HM.out]; exact (HO46.out.sl.below HBR.out).below HB9.out) (HO.out.sl.below HB9.out) (by have := HP.out.2.1; omega)).mono ?_
        rintro e w10 ⟨rfl, hb10⟩
        have HB10 := hid (HO.out.below.trans ((HB9.out.trans (hb10.mono HB9.out.size)).mono HO.out.below.size))
        clear hb10
        go_wp2
        go_ret
        exact ⟨rfl, HB10.out⟩
  · have HZ := hid h0
    obtain ⟨z, hz⟩ : ∃ z, codeFault l = z := ⟨_, rfl⟩
    have hz0 : (z == 0) = false := by rw [← hz]; simpa using h0
    have hz1 : (z == z) = true := by simp
    have HZE := hid hz
    have HNZ : Hid (¬ z = 0) := hid (by rw [← hz]; exact h0)
    clear h0 hz
    have HNIL : Hid (∀ u : World, Go.Proofs.YtmbcjcicieiolaaDoor.flows.Code u (.slice none 0 0) []) := hid (fun u => ⟨rfl, _, _, rfl, Nat.le_refl _, .inl rfl⟩)
    go_enter Tryd.func3, Tryd.ntmps3
    go_wp2_with fail
    refine (folded_any _ HF.out).mono ?_
    rintro e w1 ⟨rfl, hb1⟩
    have HB1 := hid hb1
    clear hb1
    go_wp2_with fail
    refine (codeFault_any _ l _ (HA.out.below HB1.out) HS.out (by omega)).mono ?_
    rintro e w2 ⟨rfl, hb2⟩
    have HB2 := hid (HB1.out.trans (hb2.mono HB1.out.size))
    rw [HZE.out]
    clear hb2
    go_wp2_with fail
    refine (fonce_any _ l _ (HA.out.below HB2.out) (HF.out.below HB2.out) HS.out hn).mono ?_
    intro e w3 hr3
    obtain ⟨rfl, hb3⟩ := foldBy_bad HZ.out hr3
    have HB3 := hid (HB2.out.trans (hb3.mono HB2.out.size))
    rw [HZE.out]
    clear hb3 hr3
    go_wp2_with fail
    refine (fall_any _ l _ (HA.out.below HB3.out) (HF.out.below HB3.out) HS.out hn).mono ?_
    intro e w4 hr4
    obtain ⟨rfl, hb4⟩ := foldBy_bad HZ.out hr4
    have HB4 := hid (HB3.out.trans (hb4.mono HB3.out.size))
    rw [HZE.out]
    clear hb4 hr4
    go_wp2_with fail
    refine (error_some z z _ HNZ.out).mono ?_
    rintro e w5 ⟨rfl, hww⟩
    obtain rfl := hww.symm
    go_wp2_with fail
    refine (error_some z z _ HNZ.out).mono ?_
    rintro e w5 ⟨rfl, hww⟩
    obtain rfl := hww.symm
    go_wp2_with fail
    refine (scode_same _ _ [] _ (HNIL.out _) (HNIL.out _) (by simp)).mono ?_
    rintro e w9 ⟨rfl, hb9⟩
    have HB9 := hid (HB4.out.trans (hb9.mono HB4.out.size))
    clear hb9
    go_wp2_with fail
    refine (scode_same _ _ [] _ (HNIL.out _) (HNIL.out _) (by simp)).mono ?_
    rintro e w10 ⟨rfl, hb10⟩
    have HB10 := hid (HB9.out.trans (hb10.mono HB9.out.size))
    clear hb10
    go_wp2
    go_ret
    exact ⟨by first | rfl | simp, HB10.out⟩
end Go.Proofs.YtmbcjcicieiolaaDoor.folds
