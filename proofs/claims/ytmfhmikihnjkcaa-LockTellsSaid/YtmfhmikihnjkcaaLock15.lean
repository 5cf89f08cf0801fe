/- Locks: the reference's in memory; its fault, next and Waiting. Condition: not many calls came before. -/
import Derived.Test.YtmfhmikihnjkcaaLock13
import Derived.BigQuiet
namespace Go.Proofs.Ytmfhmikihnjkcaa.locks
open Go.RowKit Go.Proofs.Ytmfhmikihnjkcaa.lib Go.Proofs.Ytmfhmikihnjkcaa.maps Go.Proofs.Ytmfhmikihnjkcaa.errs

def wq (q : Int × Int) : List Value := [.int .i64 q.1, .int .i64 q.2]
def wcells (l : List (Int × Int)) : List Value := l.flatMap wq
theorem wcells_len (l : List (Int × Int)) : (wcells l).length = l.length * 2 := by
  induction l with
  | nil => rfl
  | cons x l ih => rw [wcells, List.flatMap_cons, List.length_append, List.length_cons]; rw [wcells] at ih; rw [ih]; show 2 + _ = _; omega
theorem wcells_at : ∀ (l : List (Int × Int)) (k j : Nat) (hk : k < l.length), j < 2 → (wcells l)[k * 2 + j]? = (wq l[k])[j]?
  | x :: l, 0, j, _, hj => by
    rw [wcells, List.flatMap_cons, List.getElem?_append_left (by show 0 * 2 + j < 2; omega), Nat.zero_mul, Nat.zero_add]; rfl
  | x :: l, k + 1, j, hk, hj => by
    rw [wcells, List.flatMap_cons, List.getElem?_append_right (by show 2 ≤ (k + 1) * 2 + j; omega)]
    have := wcells_at l k j (by simpa using hk) hj
    rw [wcells] at this
    rw [show (k + 1) * 2 + j - (wq x).length = k * 2 + j from by show (k + 1) * 2 + j - 2 = _; omega, this]
    simp
theorem w_at {w : World} {a : Option Addr} {n c : Nat} {l : List (Int × Int)} (h : Sl w (.slice a n c) l.length 2 (wcells l)) {k : Nat} (hk : k < l.length) :
    ∃ b off, a = some ⟨b, off, none⟩ ∧ w.cell? ⟨b, off + k * 2, none⟩ = some (.int .i64 l[k].1) ∧ w.cell? ⟨b, off + k * 2 + 1, none⟩ = some (.int .i64 l[k].2) := by
  obtain ⟨_, a', c', he, _, h⟩ := h
  simp only [Value.slice.injEq] at he
  obtain ⟨rfl, _, _⟩ := he
  rcases h with h | ⟨b, off, rfl, h⟩
  · have := wcells_len l
    rw [h, List.length_nil] at this
    omega
  · have key : ∀ j, j < 2 → ∀ u, (wq l[k])[j]? = some u → w.cell? ⟨b, off + k * 2 + j, none⟩ = some u := fun j hj u hu => by
      rw [Nat.add_assoc]
      exact h _ u (by rw [wcells_at l k j hk hj]; exact hu)
    exact ⟨b, off, rfl, key 0 (by decide) _ rfl, key 1 (by decide) _ rfl⟩

/-- a row of 50 numbers -/
def Row50 (w : World) (g : Nat) (f : Int → Int) : Prop := ∃ cs, w.heap[g]? = some (.cells cs 3 (0, 0)) ∧ cs.size = 50 ∧ ∀ i : Nat, i < 50 → cs[i]? = some (.int .i64 (f (i : Int)))
theorem Row50.cell {w : World} {g : Nat} {f : Int → Int} (h : Row50 w g f) {i : Nat} (hi : i < 50) : w.cell? ⟨g, i, none⟩ = some (.int .i64 (f (i : Int))) ∧ w.frozen? ⟨g, i, none⟩ = false := by
  obtain ⟨cs, h1, _, h2⟩ := h
  exact ⟨by rw [cell_of h1, h2 i hi], frozen_of h1 i⟩
theorem Row50.keep {w w' : World} {g : Nat} {f : Int → Int} (h : Row50 w g f) (hk : w'.heap[g]? = w.heap[g]?) : Row50 w' g f := by
  obtain ⟨cs, h1, h2⟩ := h
  exact ⟨cs, by rw [hk, h1], h2⟩
theorem Row50.lt {w : World} {g : Nat} {f : Int → Int} (h : Row50 w g f) : g < w.heap.size := by
  obtain ⟨cs, h1, _⟩ := h
  exact (Array.getElem?_eq_some_iff.1 h1).1
theorem Row50.set {w : World} {g : Nat} {f : Int → Int} (h : Row50 w g f) {i : Nat} (hi : i < 50) (v : Int) : Row50 (w.setCell ⟨g, i, none⟩ (.int .i64 v)) g (upd f (i : Int) v) := by
  obtain ⟨cs, h1, h2, h3⟩ := h
  refine ⟨_, heap_set h1 i _, by simpa using h2, fun j hj => ?_⟩
  rw [Array.getElem?_setIfInBounds]
  by_cases e : i = j
  · subst e; rw [if_pos rfl, if_pos (by omega), upd_same]
  · rw [if_neg e, h3 j hj, upd_other _ _ (by omega)]

/-- the reference's locks lie in block q; its lists in gw, gt and where vw says -/
structure RL (w : World) (base q gw gt : Nat) (vw : Value) (A : St) : Prop where
  lo : base ≤ q ∧ base ≤ gw ∧ base ≤ gt
  ne : q ≠ gw ∧ q ≠ gt ∧ gw ≠ gt
  vne : ∀ k, vw.ownBlock = some k → k ≠ q ∧ k ≠ gw ∧ k ≠ gt
  top : w.heap[q]? = some (.cells #[.slice (some ⟨gw, 0, none⟩) 50 50, .slice (some ⟨gt, 0, none⟩) 50 50, vw] 58 (0, 0))
  who : Row50 w gw A.who
  times : Row50 w gt A.times
  row : w.ownsRow base 59 2 vw A.waits.length (wcells A.waits)
/-- their blocks -/
def RF (q gw gt : Nat) (vw : Value) (k : Nat) : Prop := k = q ∨ k = gw ∨ k = gt ∨ vw.ownBlock = some k
theorem RL.lt {w : World} {base q gw gt : Nat} {vw : Value} {A : St} (h : RL w base q gw gt vw A) {k : Nat} (hk : RF q gw gt vw k) : base ≤ k ∧ k < w.heap.size := by
  rcases hk with rfl | rfl | rfl | hk
  · exact ⟨h.lo.1, (Array.getElem?_eq_some_iff.1 h.top).1⟩
  · exact ⟨h.lo.2.1, h.who.lt⟩
  · exact ⟨h.lo.2.2, h.times.lt⟩
  · exact h.row.lt k hk
theorem ownsRow_keep {w w' : World} {base : Nat} {e : TypeId} {size : Nat} {v : Value} {n : Nat} {xs : List Value} (h : w.ownsRow base e size v n xs) (hk : ∀ g, v.ownBlock = some g → w'.heap[g]? = w.heap[g]?) : w'.ownsRow base e size v n xs := by
  refine ⟨h.1, ?_⟩
  rcases h.2 with h1 | ⟨g, cap, cur, rfl, h2, h3, h4⟩
  · exact .inl h1
  · exact .inr ⟨g, cap, cur, rfl, h2, by rw [hk g rfl]; exact h3, h4⟩
theorem RL.keep {w w' : World} {base q gw gt : Nat} {vw : Value} {A : St} (h : RL w base q gw gt vw A) (hk : ∀ k, RF q gw gt vw k → w'.heap[k]? = w.heap[k]?) : RL w' base q gw gt vw A :=
  ⟨h.lo, h.ne, h.vne, by rw [hk q (.inl rfl)]; exact h.top, h.who.keep (hk gw (.inr (.inl rfl))), h.times.keep (hk gt (.inr (.inr (.inl rfl)))), ownsRow_keep h.row fun g hg => hk g (.inr (.inr (.inr hg)))⟩
theorem RL.below {w w' : World} {base q gw gt : Nat} {vw : Value} {A : St} (h : RL w base q gw gt vw A) (hb : Below w.heap.size w w') : RL w' base q gw gt vw A := h.keep fun k hk => hb.block k (h.lt hk).2
theorem RL.sl {w : World} {base q gw gt : Nat} {vw : Value} {A : St} (h : RL w base q gw gt vw A) : Sl w vw A.waits.length 2 (wcells A.waits) := sl_of_owns h.row
theorem RL.cells {w : World} {base q gw gt : Nat} {vw : Value} {A : St} (h : RL w base q gw gt vw A) : w.cell? ⟨q, 0, none⟩ = some (.slice (some ⟨gw, 0, none⟩) 50 50) ∧ w.cell? ⟨q, 1, none⟩ = some (.slice (some ⟨gt, 0, none⟩) 50 50) ∧ w.cell? ⟨q, 2, none⟩ = some vw :=
  ⟨by rw [cell_of h.top]; rfl, by rw [cell_of h.top]; rfl, by rw [cell_of h.top]; rfl⟩

/-- nobody among the first so many -/
theorem noOne_step {l : List (Int × Int)} {x : Int} {k : Nat} (h : ∀ j (hj : j < l.length), j < k → l[j].1 ≠ x) (hk : k < l.length) (hne : l[k].1 ≠ x) : ∀ j (hj : j < l.length), j < k + 1 → l[j].1 ≠ x := fun j hj hjk => by
  by_cases e : j = k
  · subst e; exact hne
  · exact h j hj (by omega)
theorem noOne_end {A : St} {x : Int} (h : ∀ j (hj : j < A.waits.length), A.waits[j].1 ≠ x) : waitsFor A x = none := waitsFor_none.2 fun q hq => by
  obtain ⟨j, hj, rfl⟩ := List.mem_iff_getElem.1 hq
  exact h j hj
theorem oneIs {A : St} {c : Nat} (hI : Inv A c) {x : Int} {k : Nat} (hk : k < A.waits.length) (he : A.waits[k].1 = x) : waitsFor A x = some A.waits[k].2 := by
  apply waitsFor_of hI
  rw [← he]; exact List.getElem_mem hk

set_option maxRecDepth 100000 in
set_option maxHeartbeats 4000000 in
theorem rfault_any {w : World} {base q gw gt c : Nat} {vw : Value} {A : St} (h : RL w base q gw gt vw A) (hI : Inv A c) (hc : c ≤ 1000000) (x k : Int) :
    Calls Try.prog 22 #[.pointer (some ⟨q, 0, none⟩), .int .i64 x, .int .i64 k] w fun e w' => e = .returned (.int .i64 (fault A x k)) ∧ w = w' := by
  by_cases hr : x < 0 ∨ k < 0 ∨ 50 ≤ x ∨ 50 ≤ k
  · have HF := hid (fault_range (A := A) hr)
    have hs : (x < 0) ∨ (¬ x < 0 ∧ 50 ≤ x) ∨ (¬ x < 0 ∧ ¬ 50 ≤ x ∧ k < 0) ∨ (¬ x < 0 ∧ ¬ 50 ≤ x ∧ ¬ k < 0 ∧ 50 ≤ k) := by omega
    clear h hr
    rcases hs with h1 | ⟨h1, h2⟩ | ⟨h1, h2, h3⟩ | ⟨h1, h2, h3, h4⟩
    all_goals
      go_enter Try.func22, Try.ntmps22
      go_wp2
      go_ret
      rw [HF.out]
      exact ⟨rfl, rfl⟩
  · have HR := hid hr
    have h1 : ¬ x < 0 := by omega
    have h2 : ¬ k < 0 := by omega
    have h3 : ¬ 50 ≤ x := by omega
    have h4 : ¬ 50 ≤ k := by omega
    obtain ⟨_, _, hc2⟩ := h.cells
    have HS := hid h.sl
    have HI := hid hI
    have hlen := hI.len
    obtain ⟨a, d, hv⟩ := h.sl.val
    subst hv
    clear hr h hI
    go_enter Try.func22, Try.ntmps22
    go_wp2_with fail
    go_loopw [7] (fun i wr => ∃ j : Nat, j ≤ A.waits.length ∧ i = .int .i64 j ∧ w = wr ∧ Hid (∀ i (hi : i < A.waits.length), i < j → A.waits[i].1 ≠ x)) (fun i _ => A.waits.length - (intOf i).toNat)
    case atStart => exact ⟨0, Nat.zero_le _, rfl, rfl, hid (fun i _ hi => by omega)⟩
    case round =>
      obtain ⟨j, hj, rfl, rfl, HN⟩ := hrel
      by_cases hlt : j < A.waits.length
      · obtain ⟨b, off, hab, hc0, hc1⟩ := w_at HS.out hlt
        subst hab
        have hi : (0 : Int) ≤ (j : Int) := by omega
        have hli : (j : Int) < (A.waits.length : Int) := by omega
        by_cases he : A.waits[j].1 = x
        · have HF := hid (fault_twice HR.out (oneIs HI.out hlt he))
          rw [he] at hc0
          clear he hc1 hlt
          go_wp2
          go_ret
          rw [HF.out]
          exact ⟨rfl, rfl⟩
        · have HN2 := hid (noOne_step HN.out hlt he)
          have hne : (A.waits[j].1 == x) = false := by simp [he]
          generalize A.waits[j].1 = X at hc0 hne he
          clear hc1 hlt
          go_wp2
          go_roundw
          case rel => exact ⟨j + 1, by omega, by go_num, by first | trivial | rfl, HN2⟩
          case measure => simp [intOf]; omega
      · have HF := hid (fault_no HR.out (noOne_end fun i hi => HN.out i hi (by omega)))
        go_wp2
        go_ret
        rw [HF.out]
        exact ⟨rfl, rfl⟩

/-- for whom one waits, as the reference tells it -/
def nxtR (A : St) (x : Int) : Int := match nxt A x with | some y => y | none => -1

set_option maxRecDepth 100000 in
set_option maxHeartbeats 4000000 in
theorem rnext_any {w : World} {base q gw gt c : Nat} {vw : Value} {A : St} (h : RL w base q gw gt vw A) (hI : Inv A c) (hc : c ≤ 1000000) (x : Int) :
    Calls Try.prog 23 #[.pointer (some ⟨q, 0, none⟩), .int .i64 x] w fun e w' => e = .returned (.int .i64 (nxtR A x)) ∧ Below w.heap.size w w' := by
  obtain ⟨hq0, _, hc2⟩ := h.cells
  have HS := hid h.sl
  have HI := hid hI
  have HWH := hid h.who
  have hlen := hI.len
  obtain ⟨a, d, hv⟩ := h.sl.val
  subst hv
  clear h hI
  go_enter Try.func23, Try.ntmps23
  go_wp2_with fail
  go_loopw [5] (fun i wr => ∃ j : Nat, j ≤ A.waits.length ∧ i = .int .i64 j ∧ w = wr ∧ Hid (∀ i (hi : i < A.waits.length), i < j → A.waits[i].1 ≠ x)) (fun i _ => A.waits.length - (intOf i).toNat)
  case atStart => exact ⟨0, Nat.zero_le _, rfl, rfl, hid (fun i _ hi => by omega)⟩
  case round =>
    obtain ⟨j, hj, rfl, rfl, HN⟩ := hrel
    by_cases hlt : j < A.waits.length
    · obtain ⟨b, off, hab, hc0, hc1⟩ := w_at HS.out hlt
      subst hab
      have hi : (0 : Int) ≤ (j : Int) := by omega
      have hli : (j : Int) < (A.waits.length : Int) := by omega
      by_cases he : A.waits[j].1 = x
      · have hw := oneIs HI.out hlt he
        obtain ⟨hk0, hk1⟩ := (HI.out.wt _ (List.getElem_mem hlt)).2.1
        have HF : Hid (nxtR A x = A.who A.waits[j].2) := hid (by unfold nxtR nxt; rw [hw]; rfl)
        rw [he] at hc0
        generalize A.waits[j].2 = K at hc1 HF hk0 hk1
        obtain ⟨kk, rfl⟩ : ∃ kk : Nat, K = (kk : Int) := ⟨K.toNat, by omega⟩
        obtain ⟨hcw, _⟩ := HWH.out.cell (i := kk) (by omega)
        clear he hlt hw
        go_wp2_with fail
        go_quiet (fail)
        go_wp2
        go_ret
        rw [HF.out]
        exact ⟨rfl, below_drewN (Below.refl _ _) _⟩
      · have HN2 := hid (noOne_step HN.out hlt he)
        have hne : (A.waits[j].1 == x) = false := by simp [he]
        generalize A.waits[j].1 = X at hc0 hne he
        clear hc1 hlt
        go_wp2
        go_roundw
        case rel => exact ⟨j + 1, by omega, by go_num, by first | trivial | rfl, HN2⟩
        case measure => simp [intOf]; omega
    · have HF : Hid (nxtR A x = -1) := hid (by unfold nxtR nxt; rw [noOne_end fun i hi => HN.out i hi (by omega)]; rfl)
      go_wp2
      go_ret
      rw [HF.out]
      exact ⟨rfl, Below.refl _ _⟩

theorem waitTo_yes {l : List (Int × Int)} {k : Int} {j : Nat} (h : j < l.length) (he : l[j].2 = k) : ((l.take (j + 1)).filter fun q => decide (q.2 = k)).map (·.1) = ((l.take j).filter fun q => decide (q.2 = k)).map (·.1) ++ [l[j].1] := by
  rw [List.take_succ_eq_append_getElem h, List.filter_append, List.map_append]; simp [he]
theorem waitTo_no {l : List (Int × Int)} {k : Int} {j : Nat} (h : j < l.length) (he : ¬ l[j].2 = k) : ((l.take (j + 1)).filter fun q => decide (q.2 = k)).map (·.1) = ((l.take j).filter fun q => decide (q.2 = k)).map (·.1) := by
  rw [List.take_succ_eq_append_getElem h, List.filter_append, List.map_append]; simp [he]
/-- those that wait, up to a place -/
def waitTo (A : St) (k : Int) (j : Nat) : List Int := ((A.waits.take j).filter fun q => decide (q.2 = k)).map (·.1)
theorem waitTo_le (A : St) (k : Int) (j : Nat) : (waitTo A k j).length ≤ j := by
  unfold waitTo; rw [List.length_map]
  have := List.length_filter_le (fun q : Int × Int => decide (q.2 = k)) (A.waits.take j)
  rw [List.length_take] at this
  omega

set_option maxRecDepth 100000 in
set_option maxHeartbeats 4000000 in
theorem rwaiting_any {w : World} {base q gw gt c : Nat} {vw : Value} {A : St} (h : RL w base q gw gt vw A) (hI : Inv A c) (hc : c ≤ 1000000) (k : Int) :
    Calls Try.prog 17 #[.pointer (some ⟨q, 0, none⟩), .int .i64 k] w fun e w' => ∃ v, e = .returned v ∧ Out w w' 3 1 v (waiting A k).length (iv (waiting A k)) := by
  have HH := hid h
  have hlen := hI.len
  obtain ⟨a, d, hv⟩ := h.sl.val
  subst hv
  clear h hI
  go_enter Try.func17, Try.ntmps17
  go_wp2_with fail
  go_loopw [5, 6] (fun vt i wr => ∃ j : Nat, j ≤ A.waits.length ∧ i = .int .i64 j ∧ Hid (Out w wr 3 1 vt (waitTo A k j).length (iv (waitTo A k j)))) (fun _ i _ => A.waits.length - (intOf i).toNat)
  case atStart => exact ⟨0, Nat.zero_le _, rfl, hid (Out.nil _ _ _)⟩
  case round =>
    obtain ⟨j, hj, rfl, HO⟩ := hrel
    have HH2 := hid (HH.out.below HO.out.below)
    obtain ⟨hq0, _, hc2⟩ := HH2.out.cells
    by_cases hlt : j < A.waits.length
    · obtain ⟨b, off, hab, hc0, hc1⟩ := w_at HH2.out.sl hlt
      subst hab
      have hi : (0 : Int) ≤ (j : Int) := by omega
      have hli : (j : Int) < (A.waits.length : Int) := by omega
      have hwl := waitTo_le A k j
      by_cases he : A.waits[j].2 = k
      · have HY := hid (show waitTo A k (j + 1) = waitTo A k j ++ [A.waits[j].1] from waitTo_yes hlt he)
        rw [he] at hc1
        generalize A.waits[j].1 = X at hc0 HY
        obtain ⟨n, hn⟩ : ∃ n, (waitTo A k j).length = n := ⟨_, rfl⟩
        rw [hn] at HO hwl
        obtain ⟨a5, c5, hv5⟩ := HO.out.sl.val
        subst hv5
        clear he hlt
        go_wp2_with (at_builtin; refine wpList_append_lit w _ _ rfl _ _ 30 rfl 3 (.int .i64 0) 1 8 1 Try.underlying30 infoInt rfl (by decide) _ _ _ HO.out rfl rfl rfl ?_ ?_ ?_ ?_)
        all_goals first | (intro v' w' ho hg) | omega | (simp [Value.oneCell']; done) | skip
        have HO2 := hid (show Out w w' 3 1 v' (waitTo A k (j + 1)).length (iv (waitTo A k (j + 1))) from by rw [HY.out, List.length_append, hn]; unfold iv; rw [List.map_append]; exact ho)
        clear ho hg
        go_wp2
        go_roundw
        case rel => exact ⟨j + 1, by omega, by go_num, HO2⟩
        case measure => simp [intOf]; omega
      · have HY := hid (show waitTo A k (j + 1) = waitTo A k j from waitTo_no hlt he)
        have hne : (A.waits[j].2 == k) = false := by simp [he]
        generalize A.waits[j].2 = X at hc1 hne he
        clear hc0 hlt
        go_wp2
        go_roundw
        case rel => exact ⟨j + 1, by omega, by go_num, hid (by rw [HY.out]; exact HO.out)⟩
        case measure => simp [intOf]; omega
    · obtain rfl : j = A.waits.length := by omega
      have HO2 := hid (show Out w wr 3 1 u5 (waiting A k).length (iv (waiting A k)) from by have := HO.out; unfold waitTo at this; rw [List.take_length] at this; exact this)
      obtain ⟨a5, c5, hv5⟩ := HO.out.sl.val
      subst hv5
      go_wp2
      go_ret
      exact ⟨_, rfl, HO2.out⟩
end Go.Proofs.Ytmfhmikihnjkcaa.locks
