/- Locks: the reference's NewLocks and Ring. Condition: not many calls came before. -/
import Derived.Test.YtmfhmikihnjkcaaLock16
import Derived.Test.YtmfhmikihnjkcaaLock10
namespace Go.Proofs.Ytmfhmikihnjkcaa.locks
open Go.RowKit Go.Proofs.Ytmfhmikihnjkcaa.lib Go.Proofs.Ytmfhmikihnjkcaa.maps Go.Proofs.Ytmfhmikihnjkcaa.errs

theorem rl_new {w w' : World} {gw gt q : Nat} (hw : w'.heap[gw]? = some (.cells (madeCells #[.int .i64 0] 50) 3 (0, 0))) (ht : w'.heap[gt]? = some (.cells (madeCells #[.int .i64 0] 50) 3 (0, 0)))
    (hq : w'.heap[q]? = some (.cells #[.slice (some ⟨gw, 0, none⟩) 50 50, .slice (some ⟨gt, 0, none⟩) 50 50, .slice none 0 0] 58 (0, 0))) (hlo : w.heap.size ≤ q ∧ w.heap.size ≤ gw ∧ w.heap.size ≤ gt) (hne : q ≠ gw ∧ q ≠ gt ∧ gw ≠ gt) :
    RL w' w.heap.size q gw gt (.slice none 0 0) St.new :=
  ⟨hlo, hne, (fun k hk => by cases hk), hq, row50_new hw, row50_new ht, World.ownsRow_nil _ _ _ _⟩

set_option maxRecDepth 100000 in
set_option maxHeartbeats 4000000 in
theorem rnew_any (w : World) : Calls Try.prog 13 #[] w fun e w' => ∃ q gw gt, e = .returned (.pointer (some ⟨q, 0, none⟩)) ∧ RL w' w.heap.size q gw gt (.slice none 0 0) St.new ∧ Below w.heap.size w w' := by
  have hmk := run_make_row' (P := Try.prog) 30 3 (.int .i64 0) 8 Try.underlying30 infoInt rfl .i64 .i64 50 (by decide) (by decide)
  have hmk2 : ∀ w : World, (Instr.makeSlice 30 (.int .i64 50) (.int .i64 50)).run Try.prog w = .ok (.slice (some ⟨w.heap.size, 0, none⟩) 50 50) (w.alloc (.cells (madeCells #[.int .i64 0] 50) 3)) := hmk
  have HN : Hid (∀ gw gt, (gw = w.heap.size ∧ gt = w.heap.size + 1 ∨ gw = w.heap.size + 1 ∧ gt = w.heap.size) →
      RL (((w.alloc (.cells (madeCells #[.int .i64 0] 50) 3)).alloc (.cells (madeCells #[.int .i64 0] 50) 3)).alloc (.cells #[.slice (some ⟨gw, 0, none⟩) 50 50, .slice (some ⟨gt, 0, none⟩) 50 50, .slice none 0 0] 58)).drew w.heap.size (w.heap.size + 1 + 1) gw gt (.slice none 0 0) St.new) := hid (fun gw gt hg => by
    have e2 : (w.alloc (.cells (madeCells #[.int .i64 0] 50) 3)).heap.size = w.heap.size + 1 := by simp
    have e3 : ((w.alloc (.cells (madeCells #[.int .i64 0] 50) 3)).alloc (.cells (madeCells #[.int .i64 0] 50) 3)).heap.size = w.heap.size + 1 + 1 := by simp
    have h0 : ∀ O, (((w.alloc (.cells (madeCells #[.int .i64 0] 50) 3)).alloc (.cells (madeCells #[.int .i64 0] 50) 3)).alloc O).heap[w.heap.size]? = some (.cells (madeCells #[.int .i64 0] 50) 3 (0, 0)) := fun O => by
      rw [Below.heap_alloc _ _ _ (by rw [e3]; omega), Below.heap_alloc _ _ _ (by rw [e2]; omega)]; exact heap_alloc_new w _
    have h1 : ∀ O, (((w.alloc (.cells (madeCells #[.int .i64 0] 50) 3)).alloc (.cells (madeCells #[.int .i64 0] 50) 3)).alloc O).heap[w.heap.size + 1]? = some (.cells (madeCells #[.int .i64 0] 50) 3 (0, 0)) := fun O => by
      rw [Below.heap_alloc _ _ _ (by rw [e3]; omega), ← e2]; exact heap_alloc_new _ _
    have h2 : ∀ cs, (((w.alloc (.cells (madeCells #[.int .i64 0] 50) 3)).alloc (.cells (madeCells #[.int .i64 0] 50) 3)).alloc (.cells cs 58)).heap[w.heap.size + 1 + 1]? = some (.cells cs 58 (0, 0)) := fun cs => by
      rw [← e3]; exact heap_alloc_new _ _
    rcases hg with ⟨rfl, rfl⟩ | ⟨rfl, rfl⟩
    · exact rl_new (h0 _) (h1 _) (h2 _) (by omega) (by omega)
    · exact rl_new (h1 _) (h0 _) (h2 _) (by omega) (by omega))
  have HB : Hid (∀ cs, Below w.heap.size w (((w.alloc (.cells (madeCells #[.int .i64 0] 50) 3)).alloc (.cells (madeCells #[.int .i64 0] 50) 3)).alloc (.cells cs 58)).drew) := hid (fun cs =>
    ((((Below.refl w.heap.size w).alloc (Nat.le_refl _) _).alloc (by simp) _).alloc (by simp; omega) _).drew)
  generalize madeCells #[.int .i64 0] 50 = Z at hmk2 HN HB
  clear hmk
  go_enter Try.func13, Try.ntmps13
  go_wp2
  go_region
  all_goals go_wp2
  all_goals go_ret
  · exact ⟨_, _, _, rfl, HN.out _ _ (.inl ⟨rfl, rfl⟩), HB.out _⟩
  · exact ⟨_, _, _, rfl, HN.out _ _ (.inr ⟨rfl, rfl⟩), HB.out _⟩

theorem nxtR_some {A : St} {x y : Int} (h : nxt A x = some y) : nxtR A x = y := by unfold nxtR; rw [h]
theorem nxtR_none {A : St} {x : Int} (h : nxt A x = none) : nxtR A x = -1 := by unfold nxtR; rw [h]

set_option maxRecDepth 100000 in
set_option maxHeartbeats 8000000 in
theorem rring_any {w : World} {base q gw gt c : Nat} {vw : Value} {A : St} (h : RL w base q gw gt vw A) (hI : Inv A c) (hc : c ≤ 1000000) :
    Calls Try.prog 18 #[.pointer (some ⟨q, 0, none⟩)] w fun e w' => ∃ v, e = .returned v ∧ Out w w' 3 1 v (ring A).length (iv (ring A)) := by
  have HP := hid h; have HI := hid hI
  clear h hI
  go_enter Try.func18, Try.ntmps18
  go_wp2_with fail
  go_loopw [3] (fun i wr => ∃ n : Nat, n ≤ 50 ∧ i = .int .i64 n ∧ Hid (Below w.heap.size w wr) ∧ Hid (ringTo A n = none)) (fun i _ => 50 - (intOf i).toNat)
  case atStart => exact ⟨0, Nat.zero_le _, rfl, hid (Below.refl _ _), hid rfl⟩
  case round =>
    obtain ⟨n, hn, rfl, HB, HN⟩ := hrel
    obtain ⟨W1, hWW⟩ : ∃ W, W = wr := ⟨_, rfl⟩
    subst hWW
    by_cases hlt : n < 50
    · have hni : (n : Int) < 50 := by omega
      have HW1 := hid (Out.lit W1 #[.int .i64 (n : Int)] 3 1 1 rfl (by decide))
      have hPA := HP.out.below (HB.out.trans (HW1.out.below.mono HB.out.size))
      have HNX := hid (rnext_any hPA HI.out hc (n : Int))
      clear hPA
      go_wp2_with fail
      refine HNX.out.mono ?_
      rintro e w3 ⟨rfl, hb3⟩
      have HO1 : Hid (Out W1 w3 3 1 (.slice (some ⟨W1.heap.size, 0, none⟩) 1 1) 1 (iv (wayTo A (n : Int) 1))) := hid (by
        have : wayTo A (n : Int) 1 = [(n : Int)] := by rw [wayTo_succ (n := 0) rfl]; rfl
        rw [this]; exact HW1.out.later hb3)
      clear hb3
      go_wp2_with fail
      go_loopw [4, 5] (fun vt at_ w2 => ∃ j : Nat, 1 ≤ j ∧ j ≤ 51 ∧ slen vt = j ∧ Hid (∀ i, i < j → ∃ z, it A (n : Int) i = some z) ∧ (∃ z : Int, at_ = .int .i64 z ∧ Hid (match it A (n : Int) j with | some y => z = y | none => z = -1)) ∧ Hid (Out W1 w2 3 1 vt j (iv (wayTo A (n : Int) j))) ∧ Hid (∀ i, 1 ≤ i → i < j → it A (n : Int) i ≠ some (n : Int))) (fun vt _ _ => 60 - slen vt)
      case atStart =>
        refine ⟨1, by omega, by omega, rfl, hid (fun i hi => ⟨(n : Int), by
          obtain rfl : i = 0 := by omega
          rfl⟩), ⟨_, rfl, hid ?_⟩, HO1, hid (fun i h1 h2 => by omega)⟩
        have h1 : it A (n : Int) 1 = nxt A (n : Int) := it_next rfl
        rw [h1]
        cases h2 : nxt A (n : Int) with
        | none => exact nxtR_none h2
        | some y => exact nxtR_some h2
      case round =>
        obtain ⟨j, hj1, hj51, hsl, HS, ⟨z, rfl, HZ⟩, HO, HNO⟩ := hrel
        obtain ⟨av, cv, hvv⟩ := HO.out.sl.val
        subst hvv
        clear hsl
        have HB2 := hid (HB.out.trans (HO.out.below.mono HB.out.size))
        cases hit : it A (n : Int) j with
        | none =>
          have hz := HZ.out
          rw [hit] at hz
          obtain rfl : z = -1 := hz
          have HST : Hid (ringFrom A (n : Int) = none) := hid (ring_stops (j := j - 1) (by rw [show j - 1 + 1 = j by omega]; exact hit) fun i h1 h2 => HNO.out i h1 (by omega))
          have HNN := hid (ringTo_none_step HN.out HST.out)
          have hne : ((-1 : Int) == (n : Int)) = false := beq_eq_false_iff_ne.2 (by omega)
          clear hit HZ
          go_wp2
          go_roundw
          case rel => exact ⟨n + 1, by omega, by go_num, HB2, HNN⟩
          case measure => simp [intOf]; omega
        | some y =>
          have hz := HZ.out
          rw [hit] at hz
          obtain rfl : z = y := hz
          have HIT := hid hit
          obtain ⟨hz0, hz1⟩ := it_range HI.out (by omega) hit
          clear HZ hit
          by_cases hzn : z = (n : Int)
          · subst hzn
            have HF := hid (ring_found hlt HN.out (turns_some (j := j - 1) (by omega) (by rw [show j - 1 + 1 = j by omega]; exact HIT.out) fun i h1 h2 => HNO.out i h1 (by omega)))
            rw [show j - 1 + 1 = j by omega] at HF
            have HOO : Hid (Out w wr 3 1 (.slice av j cv) j (iv (wayTo A (n : Int) j))) := hid (Out.since HB.out HO.out)
            have HL := hid (way_len HS.out)
            go_wp2
            go_ret
            rw [HF.out]
            exact ⟨_, rfl, by rw [HL.out]; exact HOO.out⟩
          · have hzb : (z == (n : Int)) = false := by simp [hzn]
            have hzb2 : (z != (n : Int)) = true := by simp [hzn]
            by_cases hj : j ≤ 50
            · have hji : (j : Int) ≤ 50 := by omega
              have HWS := hid (wayTo_succ HIT.out)
              have HIY := hid (it_next HIT.out)
              clear hzn
              go_wp2_with (at_builtin; refine wpList_append_lit W1 _ _ rfl _ _ 30 rfl 3 (.int .i64 0) 1 8 1 Try.underlying30 infoInt rfl (by decide) _ _ _ HO.out rfl rfl rfl ?_ ?_ ?_ ?_)
              all_goals first | (intro v' w' ho hg) | omega | (simp [Value.oneCell']; done) | skip
              have HO2 := hid (show Out W1 w' 3 1 v' (j + 1) (iv (wayTo A (n : Int) (j + 1))) from by rw [HWS.out]; unfold iv; rw [List.map_append]; exact ho)
              have HNX2 := hid (rnext_any (HP.out.below (HB.out.trans (HO2.out.below.mono HB.out.size))) HI.out hc z)
              clear ho hg
              go_wp2_with fail
              refine HNX2.out.mono ?_
              rintro e w5 ⟨rfl, hb5⟩
              have HO3 := hid (HO2.out.later hb5)
              obtain ⟨a5, c5, hv5⟩ := HO2.out.sl.val
              subst hv5
              have HS2 : Hid (∀ i, i < j + 1 → ∃ z, it A (n : Int) i = some z) := hid (fun i hi => by
                by_cases h1 : i < j
                · exact HS.out i h1
                · obtain rfl : i = j := by omega
                  exact ⟨z, HIT.out⟩)
              have HNO2 : Hid (∀ i, 1 ≤ i → i < j + 1 → it A (n : Int) i ≠ some (n : Int)) := hid (fun i h1 h2 => by
                by_cases h3 : i < j
                · exact HNO.out i h1 h3
                · obtain rfl : i = j := by omega
                  rw [HIT.out]; intro e; have := Option.some.inj e; subst this; simp at hzb)
              have HZ2 : Hid (match it A (n : Int) (j + 1) with | some y => nxtR A z = y | none => nxtR A z = -1) := hid (by
                rw [HIY.out]
                cases h2 : nxt A z with
                | none => exact nxtR_none h2
                | some y => exact nxtR_some h2)
              clear hb5
              go_wp2
              go_roundw
              case rel => exact ⟨j + 1, by omega, by omega, rfl, HS2, ⟨_, rfl, HZ2⟩, HO3, HNO2⟩
              case measure => simp [slen]; omega
            · obtain rfl : j = 51 := by omega
              have HST : Hid (ringFrom A (n : Int) = none) := hid (turns_none fun i h1 h2 => by
                by_cases h3 : i < 51
                · exact HNO.out i h1 h3
                · obtain rfl : i = 51 := by omega
                  rw [HIT.out]; exact fun e => hzn (Option.some.inj e))
              have HNN := hid (ringTo_none_step HN.out HST.out)
              clear hzn
              go_wp2
              go_roundw
              case rel => exact ⟨n + 1, by omega, by go_num, HB2, HNN⟩
              case measure => simp [intOf]; omega
    · obtain rfl : n = 50 := by omega
      have HF := hid (ring_never HN.out)
      have HO3 := hid (Out.since HB.out (Out.nil W1 3 1))
      go_wp2
      go_ret
      rw [HF.out]
      exact ⟨_, rfl, HO3.out⟩
end Go.Proofs.Ytmfhmikihnjkcaa.locks
