/- Locks: Ring. Condition: not many calls came before. -/
import Derived.Test.YtmfhmikihnjkcaaDoorLock9
namespace Go.Proofs.YtmfhmikihnjkcaaDoor.locks
open Go.RowKit Go.Proofs.YtmfhmikihnjkcaaDoor.lib Go.Proofs.YtmfhmikihnjkcaaDoor.maps Go.Proofs.YtmfhmikihnjkcaaDoor.errs

/-- the thing that one waits for is held -/
theorem PL.held {w : World} {base p c : Nat} {m : Gh} {A : St} (h : PL w base p m A) (hI : Inv A c) {x k : Int} (hx : waitsFor A x = some k) : ∃ b v, getK m.LA k = some b ∧ Lk w m A k b v := by
  cases hb : getK m.LA k with
  | none =>
    have h1 := h.no k hb
    have h2 := (hI.wt _ (waitsFor_mem hx)).2.2
    simp only at h2
    omega
  | some b =>
    obtain ⟨v, hv⟩ := h.lk k b hb
    exact ⟨b, v, rfl, hv⟩

set_option maxRecDepth 100000 in
set_option maxHeartbeats 8000000 in
theorem ring_any {w : World} {base p c : Nat} {m : Gh} {A : St} (h : PL w base p m A) (hI : Inv A c) :
    Calls Tryd.prog 8 #[.pointer (some ⟨p, 0, none⟩)] w fun e w' => ∃ v, e = .returned v ∧ Out w w' 3 1 v (ring A).length (iv (ring A)) := by
  have HP := hid h; have HI := hid hI
  clear h hI
  go_enter Tryd.func8, Tryd.ntmps8
  go_wp2_with fail
  go_loopw [8] (fun i wr => ∃ n : Nat, n ≤ 50 ∧ i = .int .i64 n ∧ Hid (Below w.heap.size w wr) ∧ Hid (ringTo A n = none)) (fun i _ => 50 - (intOf i).toNat)
  case atStart => exact ⟨0, Nat.zero_le _, rfl, hid (Below.refl _ _), hid rfl⟩
  case round =>
    obtain ⟨n, hn, rfl, HB, HN⟩ := hrel
    obtain ⟨W1, hWW⟩ : ∃ W, W = wr := ⟨_, rfl⟩
    subst hWW
    by_cases hlt : n < 50
    · have hni : (n : Int) < 50 := by omega
      have HW1 := hid (Out.nil W1 3 1)
      go_wp2_with fail
      go_loopw [4, 5] (fun vt at_ w2 => ∃ (j : Nat) (y : Int), at_ = .int .i64 y ∧ j ≤ 50 ∧ slen vt = j ∧ Hid (it A (n : Int) j = some y) ∧ Hid (Out W1 w2 3 1 vt j (iv (wayTo A (n : Int) j))) ∧ Hid ((wayTo A (n : Int) (j + 1)).Nodup) ∧ Hid (∀ i, 1 ≤ i → i ≤ j → it A (n : Int) i ≠ some (n : Int))) (fun vt _ _ => 60 - slen vt)
      case atStart => exact ⟨0, (n : Int), rfl, by omega, rfl, hid rfl, HW1, hid (by simp [wayTo, it]), hid (fun i h1 h2 => by omega)⟩
      case round =>
        obtain ⟨j, y, rfl, hj, hsl, HY, HO, HD, HNO⟩ := hrel
        have hwl := way_len (A := A) (x := (n : Int)) (n := j + 1) fun i hi => it_some HY.out (by omega)
        have hj49 : j + 1 ≤ 50 := by
          have := nodup_len 50 _ HD.out fun x hx => by
            obtain ⟨i, _, hi⟩ := mem_way.1 hx
            exact it_range HI.out (by omega) hi
          omega
        have HWS := hid (wayTo_succ HY.out)
        have HIY := hid (it_next HY.out)
        obtain ⟨av, cv, hvv⟩ := HO.out.sl.val
        subst hvv
        clear hsl hwl hj
        go_wp2_with (at_builtin; refine wpList_append_lit W1 _ _ rfl _ _ 29 rfl 3 (.int .i64 0) 1 8 1 Tryd.underlying29 infoInt rfl (by decide) _ _ _ HO.out rfl rfl rfl ?_ ?_ ?_ ?_)
        all_goals first | (intro v' w' ho hg) | omega | (simp [Value.oneCell']; done) | skip
        have HO2 := hid (show Out W1 w' 3 1 v' (j + 1) (iv (wayTo A (n : Int) (j + 1))) from by rw [HWS.out]; unfold iv; rw [List.map_append]; exact ho)
        clear ho hg
        have HB2 := hid (HB.out.trans (HO2.out.below.mono HB.out.size))
        have hP2 := HP.out.below HB2.out
        obtain ⟨hc0, hc1⟩ := hP2.cells
        have hlw := look_waits hP2 y
        obtain ⟨a', c', hvv⟩ := HO2.out.sl.val
        subst hvv
        cases hwf : waitsFor A y with
        | none =>
          rw [hwf] at hlw
          simp only [Option.getD_none, Option.isSome_none] at hlw
          have HST : Hid (ringFrom A (n : Int) = none) := hid (ring_stops (j := j) (by rw [HIY.out, nxt, hwf]; rfl) HNO.out)
          have HNN := hid (ringTo_none_step HN.out HST.out)
          clear hwf hP2
          go_wp2
          go_roundw
          case rel => exact ⟨n + 1, by omega, by go_num, HB2, HNN⟩
          case measure => simp [intOf]; omega
        | some k =>
          rw [hwf] at hlw
          simp only [Option.getD_some, Option.isSome_some] at hlw
          obtain ⟨b, v, hb, hv⟩ := hP2.held HI.out hwf
          obtain ⟨hb0, _, _⟩ := hv.cells
          have hlk := look_all hP2 k
          rw [hb] at hlk
          simp only [Option.map_some] at hlk
          have HYN : Hid (it A (n : Int) (j + 1) = some (A.who k)) := hid (by rw [HIY.out, nxt, hwf]; rfl)
          generalize A.who k = z at hb0 HYN
          clear hwf hP2 hv hb
          by_cases hz : z = (n : Int)
          · subst hz
            have HF := hid (ring_found hlt HN.out (turns_some (j := j) (by omega) HYN.out HNO.out))
            have HOO : Hid (Out w w' 3 1 (.slice a' (j + 1) c') (j + 1) (iv (wayTo A (n : Int) (j + 1)))) := hid (Out.since HB.out HO2.out)
            have HL := hid (way_len (A := A) (x := (n : Int)) (n := j + 1) fun i hi => it_some HY.out (by omega))
            go_wp2
            go_ret
            rw [HF.out]
            exact ⟨_, rfl, by rw [HL.out]; exact HOO.out⟩
          · have hz2 : (z == (n : Int)) = false := by simp [hz]
            have HL := hid (way_len (A := A) (x := (n : Int)) (n := j + 1) fun i hi => it_some HY.out (by omega))
            have HC := hid (contains_any (.slice a' (j + 1) c') (wayTo A (n : Int) (j + 1)) z w' (by rw [HL.out]; exact HO2.out.sl) (by rw [HL.out]; omega))
            go_wp2_with fail
            refine HC.out.mono ?_
            rintro e w5 ⟨rfl, rfl⟩
            by_cases hm : z ∈ wayTo A (n : Int) (j + 1)
            · have HST : Hid (ringFrom A (n : Int) = none) := hid (ring_other HYN.out hz hm HNO.out)
              have HNN := hid (ringTo_none_step HN.out HST.out)
              have hm2 : decide (z ∈ wayTo A (n : Int) (j + 1)) = true := decide_eq_true hm
              rw [hm2]
              clear hm hm2
              go_wp2
              go_roundw
              case rel => exact ⟨n + 1, by omega, by go_num, HB2, HNN⟩
              case measure => simp [intOf]; omega
            · have hm2 : decide (z ∈ wayTo A (n : Int) (j + 1)) = false := decide_eq_false hm
              have HD2 : Hid ((wayTo A (n : Int) (j + 1 + 1)).Nodup) := hid (by
                rw [wayTo_succ HYN.out, List.nodup_append]
                refine ⟨HD.out, by simp, fun u hu q hq => ?_⟩
                rw [List.mem_singleton.1 hq]
                rintro rfl
                exact hm hu)
              have HNO2 : Hid (∀ i, 1 ≤ i → i ≤ j + 1 → it A (n : Int) i ≠ some (n : Int)) := hid (fun i h1 h2 => by
                by_cases h3 : i ≤ j
                · exact HNO.out i h1 h3
                · obtain rfl : i = j + 1 := by omega
                  rw [HYN.out]; exact fun e => hz (Option.some.inj e))
              rw [hm2]
              clear hm hm2
              go_wp2
              go_roundw
              case rel => exact ⟨j + 1, z, rfl, by omega, rfl, HYN, HO2, HD2, HNO2⟩
              case measure => simp [slen]; omega
    · obtain rfl : n = 50 := by omega
      have HF := hid (ring_never HN.out)
      have HOO := hid (Out.nil W1 3 1)
      have HO3 := hid (Out.since HB.out HOO.out)
      go_wp2
      go_ret
      rw [HF.out]
      exact ⟨_, rfl, HO3.out⟩
end Go.Proofs.YtmfhmikihnjkcaaDoor.locks
