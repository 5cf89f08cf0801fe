/- Locks: slices.Clone and slices.Contains of numbers; Waiting, Ring. Condition: not many calls came before. -/
import Derived.Test.YtmfhmikihnjkcaaDoorLock5
import Derived.Test.YtmfhmikihnjkcaaDoorLock8
import Derived.Laws.Cover3
namespace Go.Proofs.YtmfhmikihnjkcaaDoor.locks
open Go.RowKit Go.Proofs.YtmfhmikihnjkcaaDoor.lib Go.Proofs.YtmfhmikihnjkcaaDoor.maps Go.Proofs.YtmfhmikihnjkcaaDoor.errs

theorem eql_nil (w : World) (a : Option Addr) (l c : Nat) : (binOp .eql 29 (.slice a l c) (.slice none 0 0)).run Tryd.prog w = .ok (.bool a.isNone) w := by
  simp only [binOp]
  simp [run_equal_slice_nil w 29 _ a l c Tryd.underlying29, Result.andThen]
theorem one_iv (l : List Int) : ∀ u ∈ iv l, u.oneCell' = true := fun u hu => by
  obtain ⟨z, _, rfl⟩ := List.mem_map.1 hu
  rfl
theorem iv_len (l : List Int) : (iv l).length = l.length := by simp [iv]

set_option maxRecDepth 100000 in
set_option maxHeartbeats 2000000 in
theorem clone_any (v : Value) (xs : List Int) (w : World) (h : OffOwn w 3 v (iv xs)) (hn : xs.length ≤ 1000000) :
    Calls Tryd.prog 11 #[v] w fun e w' => ∃ v', e = .returned v' ∧ Out w w' 3 1 v' xs.length (iv xs) := by
  have HS := hid h.sl
  rw [iv_len] at HS
  have hnil := eql_nil
  rcases h with ⟨rfl, h0⟩ | ⟨g, off, cap, cur, rfl, _, _, _, _, _⟩
  · obtain rfl : xs = [] := by simpa [iv] using h0
    go_enter Tryd.func11, Tryd.ntmps11
    go_wp2
    go_ret
    exact ⟨_, rfl, Out.nil _ _ _⟩
  · rw [iv_len] at *
    have HM := hid (Out.made w 3 1)
    have HS2 := hid (HS.out.below (ext_alloc w (.cells #[] 3)))
    go_enter Tryd.func11, Tryd.ntmps11
    go_wp2_with (at_builtin; refine wpList_append_src w _ rfl _ _ 29 rfl 3 (.int .i64 0) 1 8 xs.length Tryd.underlying29 infoInt rfl (by decide) _ 0 [] HM.out rfl _ (iv xs) HS2.out rfl (one_iv xs) ?_ ?_ ?_)
    all_goals first | (intro v' w' ho hg) | omega | skip
    have HO := hid ho
    clear ho hg
    go_wp2
    go_ret
    exact ⟨_, rfl, HO.out⟩

set_option maxRecDepth 100000 in
set_option maxHeartbeats 2000000 in
theorem contains_any (v : Value) (xs : List Int) (y : Int) (w : World) (h : Sl w v xs.length 1 (iv xs)) (hn : xs.length ≤ 1000000) :
    Calls Tryd.prog 12 #[v, .int .i64 y] w fun e w' => e = .returned (.bool (decide (y ∈ xs))) ∧ w = w' := by
  have HI : Calls Tryd.prog 15 #[v, .int .i64 y] w fun e w' => ∃ z : Int, e = .returned (.int .i64 z) ∧ (0 ≤ z ↔ y ∈ xs) ∧ w = w' := by
    obtain ⟨a, c, rfl⟩ := h.val
    have HS := hid h
    clear h
    go_enter Tryd.func15, Tryd.ntmps15
    go_wp2_with fail
    go_loopw [8] (fun i wr => ∃ k : Nat, k ≤ xs.length ∧ i = .int .i64 k ∧ w = wr ∧ Hid (y ∉ xs.take k)) (fun i _ => xs.length - (intOf i).toNat)
    case atStart => exact ⟨0, Nat.zero_le _, rfl, rfl, hid (by simp)⟩
    case round =>
      obtain ⟨k, hk, rfl, rfl, HN⟩ := hrel
      by_cases hlt : k < xs.length
      · obtain ⟨b, off, hab, hc⟩ := Sl.ints HS.out hlt
        subst hab
        have hi : (0 : Int) ≤ (k : Int) := by omega
        have hkl : (k : Int) < (xs.length : Int) := by omega
        by_cases he : y = xs[k]
        · have HM : Hid (y ∈ xs) := hid (by rw [he]; exact List.getElem_mem hlt)
          rw [← he] at hc
          clear he hlt
          go_wp2
          go_ret
          exact ⟨_, rfl, ⟨fun _ => HM.out, fun _ => by omega⟩, rfl⟩
        · have HN2 : Hid (y ∉ xs.take (k + 1)) := hid (by
            rw [List.take_succ_eq_append_getElem hlt, List.mem_append, List.mem_singleton]
            exact fun h => h.elim HN.out he)
          have hne : (y == xs[k]) = false := by simp [he]
          generalize xs[k] = X at hc hne he
          go_wp2
          go_roundw
          case rel => exact ⟨k + 1, by omega, by go_num, by first | trivial | rfl, HN2⟩
          case measure => simp [intOf]; omega
      · have HM : Hid (y ∉ xs) := hid (by have := HN.out; rwa [List.take_of_length_le (by omega)] at this)
        go_wp2
        go_ret
        exact ⟨_, rfl, ⟨fun h => absurd h (by decide), fun h => absurd h HM.out⟩, rfl⟩
  have HX := hid HI
  clear HI h
  go_enter Tryd.func12, Tryd.ntmps12
  go_wp2_with fail
  refine HX.out.mono ?_
  rintro e w1 ⟨z, rfl, hz, rfl⟩
  have HZ := hid hz
  clear hz
  go_wp2
  go_ret
  refine ⟨?_, rfl⟩
  have : decide (0 ≤ z) = decide (y ∈ xs) := by simp [HZ.out]
  rw [← this]
  rfl

set_option maxRecDepth 100000 in
set_option maxHeartbeats 2000000 in
theorem waiting_any {w : World} {base p c : Nat} {m : Gh} {A : St} (h : PL w base p m A) (hI : Inv A c) (hc : c ≤ 1000000) (k : Int) :
    Calls Tryd.prog 7 #[.pointer (some ⟨p, 0, none⟩), .int .i64 k] w fun e w' => ∃ v, e = .returned v ∧ Out w w' 3 1 v (waiting A k).length (iv (waiting A k)) := by
  obtain ⟨hc0, hc1⟩ := h.cells
  have hlk := look_all h k
  cases hb : getK m.LA k with
  | none =>
    rw [hb] at hlk
    simp only [Option.map_none] at hlk
    rw [waiting_zero hI (h.no k hb)]
    clear h hI hb
    go_enter Tryd.func7, Tryd.ntmps7
    go_wp2
    go_ret
    exact ⟨_, rfl, Out.nil _ _ _⟩
  | some b =>
    rw [hb] at hlk
    simp only [Option.map_some] at hlk
    obtain ⟨v, hv⟩ := h.lk k b hb
    obtain ⟨_, _, hb2⟩ := hv.cells
    have HC := hid (clone_any v (waiting A k) w hv.row (Nat.le_trans (waiting_len hI k) hc))
    obtain ⟨a, n, d, hva⟩ := hv.row.val
    rw [hva] at hb2 HC
    clear h hI hv hb hva
    go_enter Tryd.func7, Tryd.ntmps7
    go_wp2_with fail
    refine HC.out.mono ?_
    rintro e w1 ⟨v', rfl, ho⟩
    have HO := hid ho
    clear ho
    go_wp2
    go_ret
    exact ⟨_, rfl, HO.out⟩
end Go.Proofs.YtmfhmikihnjkcaaDoor.locks
