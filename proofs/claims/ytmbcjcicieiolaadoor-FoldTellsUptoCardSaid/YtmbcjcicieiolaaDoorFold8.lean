/- Constants folded: fold.known, all of it. Condition: the list is not long. -/
import Derived.Test.YtmbcjcicieiolaaDoorFold3
import Derived.Test.YtmbcjcicieiolaaDoorFold5
import Derived.Test.YtmbcjcicieiolaaDoorFold7
import Derived.Test.YtmbcjcicieiolaaDoorFold1
import Derived.Test.YtmbcjcicieiolaaDoorMap
import Derived.Test.YtmbcjcicieiolaaDoorOwn
import Derived.Laws.Cover3
set_option linter.unusedSimpArgs false
namespace Go.Proofs.YtmbcjcicieiolaaDoor.folds
open Go.RowKit Go.Proofs.YtmbcjcicieiolaaDoor.lib Go.Proofs.YtmbcjcicieiolaaDoor.errs Go.Proofs.YtmbcjcicieiolaaDoor.names Go.Proofs.YtmbcjcicieiolaaDoor.descs Go.Proofs.YtmbcjcicieiolaaDoor.ins Go.Proofs.YtmbcjcicieiolaaDoor.flows Go.Proofs.YtmbcjcicieiolaaDoor.nums Go.Proofs.YtmbcjcicieiolaaDoor.grow

/-- what fold.known answers -/
def KnownBy (w : World) (l : List I) (e : Ending) (w' : World) : Prop := e = .returned (.tuple #[(knownOf l).1.val, .int .i64 (knownOf l).2]) ∧ Below w.heap.size w w'

set_option maxRecDepth 100000 in
set_option maxHeartbeats 4000000 in
theorem known_short (l : List I) (a : Option Addr) (c : Nat) (w : World) (hl : l.length < 2) :
    Calls Tryd.prog 42 #[.slice a l.length c] w fun e w' => e = .returned (.tuple #[noI.val, .int .i64 0]) ∧ Below w.heap.size w w' := by
  have g1 : (l.length : Int) < 2 := by omega
  obtain ⟨W1, hW1⟩ : ∃ W1, w.alloc (.cells #[.int .i64 0, .int .i64 0, .int .i64 0, .string { data := #[] }, .string { data := #[] }, .string { data := #[] }] 37) = W1 := ⟨_, rfl⟩
  have HB1 : Hid (Below w.heap.size w W1) := hid (hW1 ▸ ext_alloc _ _)
  have HR1 : Hid (W1.heap[w.heap.size]? = some (.cells #[.int .i64 0, .int .i64 0, .int .i64 0, .string { data := #[] }, .string { data := #[] }, .string { data := #[] }] 37)) := hid (hW1 ▸ heap_alloc_last _ _)
  go_enter Tryd.func42, Tryd.ntmps42
  go_wp2_with (refine wpList_store_row rfl 37 (.tmp 2) (.tmp 21) rfl w.heap.size _ rfl rfl 37 _ HR1.out (by kernel_rfl) rfl (by simp [Value.oneCell']) ?_)
  refine bodyPost_ret (results_cell_at rfl _ _ w.heap.size _ _ _ _ rfl (setRow_heap _ _ _ _ _ _ HR1.out) Tryd.underlying37 rfl (by kernel_rfl)) rfl ?_
  exact ⟨rfl, Go.Proofs.YtmbcjcicieiolaaDoor.lib.below_setRow HB1.out (Nat.le_refl _) _⟩

set_option maxRecDepth 100000 in
set_option maxHeartbeats 4000000 in
theorem known_nopush1 (x y : I) (r : List I) (b off c n : Nat) (w : World) (hc : Go.Proofs.YtmbcjcicieiolaaDoor.flows.Code w (.slice (some ⟨b, off, none⟩) n c) (x :: y :: r)) (hn : n = r.length + 2) (hx : ¬ x.op = 2) (h30 : n ≤ 2000000) :
    Calls Tryd.prog 42 #[.slice (some ⟨b, off, none⟩) n c] w fun e w' => e = .returned (.tuple #[noI.val, .int .i64 0]) ∧ Below w.heap.size w w' := by
  have g2 : ¬ (n : Int) < 2 := by omega
  have g4 : (0 : Int) < (n : Int) := by omega
  have k0 : w.cell? ⟨b, off, none⟩ = some (.int .i64 x.op) := ins_cells hc (Below.refl _ _) (k := 0) (by simp) off (by omega) 0 (show 0 < 6 by omega)
  have hbs : b < w.heap.size := World.block_lt_of_cell? _ _ k0
  have hx2 : (x.op != 2) = true := by simpa using hx
  obtain ⟨W1, hW1⟩ : ∃ W1, w.alloc (.cells #[.int .i64 0, .int .i64 0, .int .i64 0, .string { data := #[] }, .string { data := #[] }, .string { data := #[] }] 37) = W1 := ⟨_, rfl⟩
  have HB1 : Hid (Below w.heap.size w W1) := hid (hW1 ▸ ext_alloc _ _)
  have HR1 : Hid (W1.heap[w.heap.size]? = some (.cells #[.int .i64 0, .int .i64 0, .int .i64 0, .string { data := #[] }, .string { data := #[] }, .string { data := #[] }] 37)) := hid (hW1 ▸ heap_alloc_last _ _)
  have k1 : W1.cell? ⟨b, off, none⟩ = some (.int .i64 x.op) := (HB1.out.cell hbs).trans k0
  clear hc hn hx
  go_enter Tryd.func42, Tryd.ntmps42
  go_wp2_with (refine wpList_store_row rfl 37 (.tmp 2) (.tmp 21) rfl w.heap.size _ rfl rfl 37 _ HR1.out (by kernel_rfl) rfl (by simp [Value.oneCell']) ?_)
  refine bodyPost_ret (results_cell_at rfl _ _ w.heap.size _ _ _ _ rfl (setRow_heap _ _ _ _ _ _ HR1.out) Tryd.underlying37 rfl (by kernel_rfl)) rfl ?_
  exact ⟨rfl, Go.Proofs.YtmbcjcicieiolaaDoor.lib.below_setRow HB1.out (Nat.le_refl _) _⟩

theorem known_any (va : Value) (l : List I) (w : World) (ha : Go.Proofs.YtmbcjcicieiolaaDoor.flows.Code w va l) (hn : l.length ≤ 2000000) : Calls Tryd.prog 42 #[va] w (KnownBy w l) := by
  obtain ⟨a, c, rfl⟩ := ha.val
  rcases l with _ | ⟨x, _ | ⟨y, r⟩⟩
  · exact known_short [] a c w (by simp)
  · exact known_short [x] a c w (by simp)
  · obtain ⟨b, off, rfl, _⟩ := code_at ha (k := 0) (by simp)
    have hl : (x :: y :: r).length = r.length + 2 := by simp
    by_cases hx : x.op = 2
    · by_cases c1 : y.op = 10
      · exact known_conv x y r b off c _ w ha hl hx c1 hn
      · by_cases c2 : y.op = 9
        · exact known_neg x y r b off c _ w ha hl hx c1 c2 hn
        · by_cases c3 : y.op = 2
          · cases hr : r with
            | nil => subst hr; exact known_push2 x y [] b off c _ w ha hl hx c3 rfl hn
            | cons z r2 =>
              subst hr
              by_cases c4 : z.op = 9
              · by_cases c5 : z.a = 12
                · exact known_noneg x y _ b off c _ w ha hl hx c3 z r2 rfl c4 c5 hn
                · cases c6 : pushOf x z.t with
                  | false => exact known_nopush x y _ b off c _ w ha hl hx c3 z r2 rfl c4 c5 c6 hn
                  | true =>
                    by_cases a9 : 9 ≤ z.a
                    · by_cases a11 : z.a ≤ 11
                      · exact known_shift x y _ b off c _ w ha hl hx c3 z r2 rfl c4 c5 c6 a9 a11 hn
                      · exact known_high x y _ b off c _ w ha hl hx c3 z r2 rfl c4 c5 c6 a9 a11 hn
                    · exact known_low x y _ b off c _ w ha hl hx c3 z r2 rfl c4 c5 c6 a9 hn
              · exact known_nomath x y _ b off c _ w ha hl hx c3 z r2 rfl c4 hn
          · exact known_oth x y r b off c _ w ha hl hx c1 c2 c3 hn
    · have e : knownOf (x :: y :: r) = (noI, 0) := if_neg hx
      unfold KnownBy
      rw [e]
      exact known_nopush1 x y r b off c _ w ha hl hx hn
end Go.Proofs.YtmbcjcicieiolaaDoor.folds

/- Constants folded: the places that are gone to, as a map in memory; the function value of fold.once; slices.ContainsFunc of numbers; slices.Clone of instructions. Condition: the lists are not long. -/
set_option linter.unusedSimpArgs false
namespace Go.Proofs.YtmbcjcicieiolaaDoor.folds
open Go.RowKit Go.Proofs.YtmbcjcicieiolaaDoor.lib Go.Proofs.YtmbcjcicieiolaaDoor.errs Go.Proofs.YtmbcjcicieiolaaDoor.names Go.Proofs.YtmbcjcicieiolaaDoor.descs Go.Proofs.YtmbcjcicieiolaaDoor.ins Go.Proofs.YtmbcjcicieiolaaDoor.flows Go.Proofs.YtmbcjcicieiolaaDoor.nums Go.Proofs.YtmbcjcicieiolaaDoor.maps

theorem goes_snoc (l : List I) {k : Nat} (hk : k < l.length) (p : Int) : goesTo (l.take (k + 1)) p = (goesTo (l.take k) p || (jumpsOp l[k].op && decide (l[k].a = p))) := by
  unfold goesTo
  rw [List.take_succ_eq_append_getElem hk, List.any_append]
  simp

/-- Block g is a map whose keys are the places that these go to. -/
def Goes (w : World) (g : Nat) (l : List I) : Prop := ∃ ml : List (Int × Value), MapIs intKey w g ml ∧ (∀ q ∈ ml, q.2 = .agg #[]) ∧ ∀ k, (getK ml k).isSome = goesTo l k
theorem goes_keep {w w' : World} {g : Nat} {l : List I} (h : Goes w g l) (hb : w'.heap[g]? = w.heap[g]?) : Goes w' g l := by
  obtain ⟨ml, h1, h2, h3⟩ := h
  exact ⟨ml, map_keep intKey h1 hb, h2, h3⟩
theorem goes_lt {w : World} {g : Nat} {l : List I} (h : Goes w g l) : g < w.heap.size := by
  obtain ⟨ml, ⟨es, c, h1, _⟩, _⟩ := h
  exact (Array.getElem?_eq_some_iff.1 h1).1
theorem goes_look {w : World} {g : Nat} {l : List I} (h : Goes w g l) (x : Int) : (Instr.lookup 68 (.map (some g)) (.int .i64 x) true).run Tryd.prog w = .ok (.tuple #[.agg #[], .bool (goesTo l x)]) w := by
  obtain ⟨ml, h1, h2, h3⟩ := h
  have := run_look_ok (P := Tryd.prog) (E := intKey) Tryd.underlying68 Tryd.underlying3 h1 x (z := .agg #[]) (show (zeroValue 69).run Tryd.prog w = _ by kernel_rfl)
  have e : (getK ml x).getD (.agg #[]) = .agg #[] := by
    cases hg : getK ml x with
    | none => rfl
    | some v => exact h2 _ (getK_mem hg)
  rw [e, h3] at this
  exact this
theorem getK_setK_mem {ml : List (Int × Value)} (h : ∀ q ∈ ml, q.2 = .agg #[]) (k : Int) : ∀ q ∈ setK ml k (.agg #[]), q.2 = .agg #[] := by
  induction ml with
  | nil => intro q hq; simp [setK] at hq; rw [hq]
  | cons p r ih =>
    obtain ⟨j, u⟩ := p
    intro q hq
    simp only [setK] at hq
    split at hq
    · rcases List.mem_cons.1 hq with rfl | hq
      · rfl
      · exact h q (List.mem_cons_of_mem _ hq)
    · rcases List.mem_cons.1 hq with rfl | hq
      · exact h _ (List.mem_cons_self ..)
      · exact ih (fun q hq => h q (List.mem_cons_of_mem _ hq)) q hq
/-- one place more -/
theorem goes_add {w : World} {g : Nat} {l : List I} {k : Nat} (hk : k < l.length) (h : Goes w g (l.take k)) (hj : jumpsOp l[k].op = true) :
    ∃ w', (Instr.mapUpdate 68 (.map (some g)) (.int .i64 l[k].a) (.agg #[])).run Tryd.prog w = .ok () w' ∧ Goes w' g (l.take (k + 1)) ∧ w.grownBy w' (some g) := by
  obtain ⟨ml, h1, h2, h3⟩ := h
  obtain ⟨w', hrun, r1, r2⟩ := run_update (P := Tryd.prog) (E := intKey) Tryd.underlying68 Tryd.underlying3 h1 l[k].a (.agg #[])
  refine ⟨w', hrun, ⟨_, r1, getK_setK_mem h2 _, fun j => ?_⟩, r2⟩
  rw [getK_set, goes_snoc l hk, hj]
  by_cases e : j = l[k].a
  · rw [if_pos e]; simp [e]
  · rw [if_neg e, h3]; simp [Ne.symm e]
theorem goes_skip {w : World} {g : Nat} {l : List I} {k : Nat} (hk : k < l.length) (h : Goes w g (l.take k)) (hj : jumpsOp l[k].op = false) : Goes w g (l.take (k + 1)) := by
  obtain ⟨ml, h1, h2, h3⟩ := h
  exact ⟨ml, h1, h2, fun j => by rw [h3, goes_snoc l hk, hj]; simp⟩

set_option maxRecDepth 100000 in
set_option maxHeartbeats 2000000 in
/-- the function value: does something go there -/
theorem gone1_any (l : List I) (p : Int) (b g : Nat) (w : World) (hc : w.cell? ⟨b, 0, none⟩ = some (.map (some g))) (hm : Goes w g l) :
    Calls Tryd.prog 44 #[.int .i64 p, .pointer (some ⟨b, 0, none⟩)] w fun e w' => e = .returned (.bool (goesTo l p)) ∧ Below w.heap.size w w' := by
  have hlk := goes_look hm p
  have HB := hid (ext_alloc w (.cells #[] 69))
  clear hm
  go_enter Tryd.func44, Tryd.ntmps44
  go_wp2_with fail
  go_ret
  exact ⟨rfl, HB.out⟩

theorem any_yes {f : Int → Bool} {xs : List Int} {k : Nat} (hk : k < xs.length) (h : f xs[k] = true) : (xs.drop k).any f = true := by rw [List.drop_eq_getElem_cons hk, List.any_cons, h]; rfl
theorem any_no {f : Int → Bool} {xs : List Int} {k : Nat} (hk : k < xs.length) (h : f xs[k] = false) : (xs.drop k).any f = (xs.drop (k + 1)).any f := by rw [List.drop_eq_getElem_cons hk, List.any_cons, h]; rfl
theorem any_end {f : Int → Bool} {xs : List Int} {k : Nat} (hk : ¬ k < xs.length) : (xs.drop k).any f = false := by rw [List.drop_eq_nil_of_le (by omega)]; rfl

set_option maxRecDepth 100000 in
set_option maxHeartbeats 2000000 in
theorem indexG_any (va : Value) (xs : List Int) (l : List I) (b g : Nat) (w : World) (ha : Sl w va xs.length 1 (xs.map (.int .i64))) (hc : w.cell? ⟨b, 0, none⟩ = some (.map (some g))) (hm : Goes w g l) (hn : xs.length ≤ 1000000000000) :
    Calls Tryd.prog 79 #[va, .func (.func 44) #[] #[.pointer (some ⟨b, 0, none⟩)]] w fun e w' => ∃ z : Int, e = .returned (.int .i64 z) ∧ decide (0 ≤ z) = xs.any (goesTo l) ∧ Below w.heap.size w w' := by
  obtain ⟨a, c, rfl⟩ := ha.val
  have HA := hid ha; have HC := hid hc; have HM := hid hm
  clear ha hc hm
  go_enter Tryd.func79, Tryd.ntmps79
  go_wp2_with fail
  go_loopw [8] (fun i wr => ∃ k : Nat, k ≤ xs.length ∧ i = .int .i64 k ∧ Hid (Below w.heap.size w wr) ∧ Hid (xs.any (goesTo l) = (xs.drop k).any (goesTo l))) (fun i _ => xs.length - (intOf i).toNat)
  case atStart => exact ⟨0, Nat.zero_le _, rfl, hid (Below.refl _ _), hid rfl⟩
  case round =>
    obtain ⟨k, hk, rfl, HR, HP⟩ := hrel
    by_cases hlt : k < xs.length
    · obtain ⟨bb, off, hab, hd0⟩ := Sl.ints (HA.out.below HR.out) hlt
      subst hab
      have hi : (0 : Int) ≤ (k : Int) := by omega
      have hkl : (k : Int) < (xs.length : Int) := by omega
      have HY := hid (fun h => any_yes (f := goesTo l) hlt h)
      have HN := hid (fun h => any_no (f := goesTo l) hlt h)
      generalize xs[k] = x at hd0 HY HN
      have HT := hid (gone1_any l x b g wr (by rw [HR.out.cell (World.block_lt_of_cell? _ _ HC.out)]; exact HC.out) (goes_keep HM.out (HR.out.block g (goes_lt HM.out))))
      go_wp2_with fail
      refine HT.out.mono ?_
      rintro e w1 ⟨rfl, hb1⟩
      have HR1 := hid (HR.out.trans (hb1.mono HR.out.size))
      clear hb1
      cases h2 : goesTo l x with
      | true =>
        have HT2 : Hid (xs.any (goesTo l) = true) := hid (HP.out.trans (HY.out h2))
        clear h2
        go_wp2_with fail
        go_ret
        exact ⟨_, rfl, by rw [HT2.out]; exact decide_eq_true (by omega), HR1.out⟩
      | false =>
        have HP2 := hid (HP.out.trans (HN.out h2))
        clear h2
        go_wp2_with fail
        go_roundw
        case rel => exact ⟨k + 1, by omega, by go_num, HR1, HP2⟩
        case measure => simp [intOf]; omega
    · have HF : Hid (xs.any (goesTo l) = false) := hid (HP.out.trans (any_end hlt))
      go_wp2_with fail
      go_ret
      exact ⟨_, rfl, by rw [HF.out]; rfl, HR.out⟩

theorem containsG_any (va : Value) (xs : List Int) (l : List I) (b g : Nat) (w : World) (ha : Sl w va xs.length 1 (xs.map (.int .i64))) (hc : w.cell? ⟨b, 0, none⟩ = some (.map (some g))) (hm : Goes w g l) (hn : xs.length ≤ 1000000000000) :
    Calls Tryd.prog 43 #[va, .func (.func 44) #[] #[.pointer (some ⟨b, 0, none⟩)]] w fun e w' => e = .returned (.bool (xs.any (goesTo l))) ∧ Below w.heap.size w w' := by
  have HI := hid (indexG_any va xs l b g w ha hc hm hn)
  obtain ⟨a, c, rfl⟩ := ha.val
  clear ha hc hm
  go_enter Tryd.func43, Tryd.ntmps43
  go_wp2_with fail
  refine HI.out.mono ?_
  rintro e w1 ⟨z, rfl, hz, hb⟩
  have HZ := hid hz
  clear hz
  go_wp2_with fail
  go_ret
  exact ⟨by rw [← HZ.out]; rfl, hb⟩

theorem infoI : (Tryd.prog.info? 37).map (fun i => (i.zero, i.size, i.bytes)) = some (some (.agg #[.int .i64 0, .int .i64 0, .int .i64 0, .string { data := #[] }, .string { data := #[] }, .string { data := #[] }]), 6, 72) := by kernel_rfl
theorem cells_more (l : List I) (x : I) : cellsOf (l ++ [x]) = cellsOf l ++ x.cells := by simp [cellsOf, List.flatMap_append]
theorem one_cellsL (l : List I) : ∀ u ∈ cellsOf l, u.oneCell' = true := fun u hu => by
  obtain ⟨x, _, hx⟩ := List.mem_flatMap.1 hu
  simp [I.cells] at hx
  rcases hx with rfl | rfl | rfl | rfl | rfl | rfl <;> rfl
theorem eql_nilI (w : World) (a : Option Addr) (l c : Nat) : (binOp .eql 22 (.slice a l c) (.slice none 0 0)).run Tryd.prog w = .ok (.bool a.isNone) w := by
  simp only [binOp]
  simp [run_equal_slice_nil w 22 _ a l c Tryd.underlying22, Result.andThen]

set_option maxRecDepth 100000 in
set_option maxHeartbeats 2000000 in
theorem cloneI_any (va : Value) (l : List I) (w : World) (ha : Go.Proofs.YtmbcjcicieiolaaDoor.flows.Code w va l) (hn : l.length ≤ 2000000) :
    Calls Tryd.prog 45 #[va] w fun e w' => ∃ v', e = .returned v' ∧ Out w w' 37 6 v' l.length (cellsOf l) := by
  have hnil := eql_nilI
  have HE := hid (one_cellsL l)
  have HS := hid ha
  obtain ⟨a, c, rfl⟩ := ha.val
  cases a with
  | none =>
    have hl0 : l = [] := by
      rcases l with _ | ⟨x, r⟩
      · rfl
      · obtain ⟨_, _, h, _⟩ := code_at ha (k := 0) (by simp); cases h
    subst hl0
    clear ha
    go_enter Tryd.func45, Tryd.ntmps45
    go_wp2
    go_ret
    exact ⟨_, rfl, Out.nil _ _ _⟩
  | some a =>
    have HM := hid (Out.made w 37 6)
    have HS2 := hid (HS.out.below (ext_alloc w (.cells #[] 37)))
    clear ha
    go_enter Tryd.func45, Tryd.ntmps45
    go_wp2_with (at_builtin; refine wpList_append_src w _ rfl _ _ 22 rfl 37 _ 6 72 l.length Tryd.underlying22 infoI rfl (by decide) _ 0 [] HM.out rfl _ (cellsOf l) HS2.out rfl HE.out ?_ ?_ ?_)
    all_goals first | (intro v' w' ho hg) | omega | skip
    have HO := hid ho
    obtain ⟨a', c', rfl⟩ := ho.sl.val
    clear ho hg
    go_wp2
    go_ret
    exact ⟨_, rfl, by simpa using HO.out⟩
end Go.Proofs.YtmbcjcicieiolaaDoor.folds
