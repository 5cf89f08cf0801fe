/- Handles: how many they are, as the document counts: HandleSize. Condition: they are not too many. -/
import Derived.Test.YtikkhjcocmihlaaDoorHand1
set_option linter.unusedSimpArgs false
set_option linter.unusedVariables false
namespace Go.Proofs.YtikkhjcocmihlaaDoor.hands
open Go.RowKit Go.Proofs.YtikkhjcocmihlaaDoor.lib

set_option maxRecDepth 100000 in
set_option maxHeartbeats 4000000 in
theorem rsize_any : ∀ (N : Nat) (x : Nd) (w : World), cnt x ≤ N → NAt w x → cnt x ≤ 1000000000000 →
    Calls Tryd.prog 7 #[.agg #[.int .i64 x.k, .string x.t, .int .i64 x.a, x.va, x.vs]] w fun e w' => ∃ r : Int, e = .returned (.int .i64 r) ∧ (1 ≤ r ∧ r ≤ (cnt x : Int) ∧ (r ≤ 30 → r = (cnt x : Int))) ∧ Below w.heap.size w w' := by
  intro N
  induction N with
  | zero => intro x w h; unfold cnt at h; omega
  | succ N ih =>
    intro x w hN hx hB
    have IH := hid ih
    clear ih
    obtain ⟨k, t, a, va, vs, ats, subs⟩ := x
    obtain ⟨av, cv, hva⟩ := hx.1.1.val
    obtain ⟨sa, cs, hvs⟩ := hx.1.2.val
    simp only at hva hvs
    subst hva hvs
    have HX := hid hx
    have HN : Hid (cntF subs ≤ N) := hid (by unfold cnt at hN; simp only at hN; omega)
    have HB : Hid (cntF subs ≤ 1000000000000) := hid (by unfold cnt at hB; simp only at hB; omega)
    have HSA := hid (sum_all subs)
    obtain ⟨l, hl⟩ : ∃ l, nodes subs = l := ⟨_, rfl⟩
    have HSL : Hid (Sl w (.slice sa l.length cs) l.length 5 (l.flatMap Nd.cells)) := hid (by have := hx.1.2; simp only at this; rwa [hl] at this)
    have HND : Hid (∀ y ∈ l, NAt w y ∧ cnt y ≤ cntF subs) := hid (fun y hy => node_at hx.2 (by rw [hl]; exact hy))
    rw [hl] at HSA
    have hlen : l.length ≤ 1000000000000 := by
      have h1 : ∀ q : List Nd, q.length ≤ (q.map cnt).sum := by
        intro q
        induction q with
        | nil => simp
        | cons y q ih =>
          simp only [List.length_cons, List.map_cons, List.sum_cons]
          have : 1 ≤ cnt y := by unfold cnt; omega
          omega
      have := h1 l
      rw [HSA.out] at this
      exact Nat.le_trans this HB.out
    simp only [hl]
    obtain ⟨X1, hX1⟩ : ∃ X1, w.alloc (.cells #[.int .i64 k, .string t, .int .i64 a, .slice av ats.length cv, .slice sa l.length cs] 25) = X1 := ⟨_, rfl⟩
    have HB1 : Hid (Below w.heap.size w X1) := hid (hX1 ▸ ext_alloc _ _)
    have x4 : X1.cell? ⟨w.heap.size, 4, none⟩ = some (.slice sa l.length cs) := by rw [← hX1, World.cell?_alloc_at _ _ _ _ rfl]; rfl
    have HX4 := hid x4
    clear hx hN hB hl
    go_enter Tryd.func7, Tryd.ntmps7
    go_wp2_with fail
    go_loopw [3, 4] (fun v i wr => ∃ (j : Nat) (r : Int), j ≤ l.length ∧ i = .int .i64 j ∧ v = .int .i64 r ∧ Hid (Below X1.heap.size X1 wr) ∧ Hid (1 ≤ r ∧ r ≤ 1 + (sumTo l j : Int) ∧ (r ≤ 30 → r = 1 + (sumTo l j : Int)))) (fun _ i _ => l.length - (intOf i).toNat)
    case atStart => exact ⟨0, 1, Nat.zero_le _, rfl, rfl, hid (Below.refl _ _), hid ⟨by omega, by simp [sumTo], fun _ => by simp [sumTo]⟩⟩
    case round =>
      obtain ⟨j, r, hj, rfl, rfl, HR1, HS⟩ := hrel
      have HR := hid (HB1.out.trans (HR1.out.mono HB1.out.size))
      have w4 := (HR1.out.cell (World.block_lt_of_cell? _ _ HX4.out)).trans HX4.out
      by_cases hlt : j < l.length
      · obtain ⟨b, off, hab, d0, d1, d2, d3, d4⟩ := nd_at (HSL.out.below HR.out) hlt
        subst hab
        have hi : (0 : Int) ≤ (j : Int) := by omega
        have hjl : (j : Int) < (l.length : Int) := by omega
        obtain ⟨hna, hnc⟩ := HND.out _ (List.getElem_mem hlt)
        have HNA := hid hna; have HNC := hid hnc
        have HSN := hid (sum_next hlt)
        have HSM : Hid (sumTo l (j + 1) ≤ cntF subs) := hid (by rw [← HSA.out]; exact sum_le l _)
        clear hna hnc
        generalize l[j] = y at d0 d1 d2 d3 d4 HNA HNC HSN
        by_cases hr : r ≤ 30
        · have HC : Hid (∀ u, Below w.heap.size w u → Calls Tryd.prog 7 #[.agg #[.int .i64 y.k, .string y.t, .int .i64 y.a, y.va, y.vs]] u fun e w' => ∃ q : Int, e = .returned (.int .i64 q) ∧ (1 ≤ q ∧ q ≤ (cnt y : Int) ∧ (q ≤ 30 → q = (cnt y : Int))) ∧ Below u.heap.size u w') := hid (fun u hu =>
            IH.out y u (Nat.le_trans HNC.out HN.out) (HNA.out.below hu) (Nat.le_trans HNC.out HB.out))
          obtain ⟨yk, yt, ya, yva, yvs, yats, ysubs⟩ := y
          obtain ⟨a1, c1, e1⟩ := HNA.out.1.1.val
          obtain ⟨a2, c2, e2⟩ := HNA.out.1.2.val
          simp only at e1 e2 d0 d1 d2 d3 d4 HC
          subst e1 e2
          have hr1 : 1 ≤ r := HS.out.1
          go_wp2_with fail
          refine (HC.out _ HR.out).mono ?_
          rintro e w5 ⟨q, rfl, hq, hb5⟩
          have HQ := hid hq
          have HB5 := hid (HR1.out.trans (hb5.mono HR1.out.size))
          have hq1 : r + q ≤ 2000000000000 := by
            have h1 := HS.out.2.1; have h2 := HQ.out.2.1; have h3 := HSN.out; have h4 := HSM.out; have h5 := HB.out
            omega
          have hq2 : 1 ≤ q := HQ.out.1
          clear hq hb5
          go_wp2_with fail
          go_roundw
          case rel => exact ⟨j + 1, r + q, by omega, by go_num, by go_num, HB5, hid ⟨by omega, by
            have h1 := HS.out.2.1; have h2 := HQ.out.2.1; have h3 := HSN.out
            omega, fun h => by
            have h1 := HS.out.2.2 hr; have h2 := HQ.out.2.2 (by omega); have h3 := HSN.out
            omega⟩⟩
          case measure => simp [intOf]; omega
        · have HSJ : Hid (sumTo l j ≤ cntF subs) := hid (by rw [← HSA.out]; exact sum_le l _)
          go_wp2_with fail
          go_ret
          refine ⟨r, rfl, ?_, HR.out⟩
          have h1 := HS.out
          have h2 := HSJ.out
          show 1 ≤ r ∧ r ≤ ((1 + cntF subs : Nat) : Int) ∧ (r ≤ 30 → r = ((1 + cntF subs : Nat) : Int))
          exact ⟨h1.1, by omega, fun h => by omega⟩
      · have e : j = l.length := by omega
        have hge : ¬ (j : Int) < (l.length : Int) := by omega
        have HF : Hid (sumTo l j = cntF subs) := hid (by rw [e]; unfold sumTo; rw [List.take_length]; exact HSA.out)
        clear e
        go_wp2_with fail
        go_ret
        refine ⟨r, rfl, ?_, HR.out⟩
        have h1 := HS.out
        rw [HF.out] at h1
        show 1 ≤ r ∧ r ≤ ((1 + cntF subs : Nat) : Int) ∧ (r ≤ 30 → r = ((1 + cntF subs : Nat) : Int))
        exact ⟨h1.1, by omega, fun h => by have := h1.2.2 h; omega⟩
end Go.Proofs.YtikkhjcocmihlaaDoor.hands
