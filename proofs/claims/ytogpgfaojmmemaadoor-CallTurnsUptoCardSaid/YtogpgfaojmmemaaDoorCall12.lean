/- Handles called: CallTurns: its args turned; its walk. Conditions: the handle is not too great, its texts and the args are not long. -/
import Derived.Test.YtogpgfaojmmemaaDoorCall11
import Derived.Test.YtogpgfaojmmemaaDoorMtypeP
set_option linter.unusedSimpArgs false
set_option linter.unusedVariables false
namespace Go.Proofs.YtogpgfaojmmemaaDoor.hands
open Go.RowKit Go.Proofs.YtogpgfaojmmemaaDoor.lib Go.Proofs.YtogpgfaojmmemaaDoor.errs Go.Proofs.YtogpgfaojmmemaaDoor.descs Go.Proofs.YtogpgfaojmmemaaDoor.mtypes Go.Proofs.YtogpgfaojmmemaaDoor.nums Go.Proofs.YtogpgfaojmmemaaDoor.grow Go.Proofs.YtogpgfaojmmemaaDoor.texts

def turnI (az : List Int) (k : Nat) : List Int := az.reverse.take k
theorem turnI_step {az : List Int} {n : Nat} (h : n < az.length) : turnI az (n + 1) = turnI az n ++ [az[az.length - 1 - n]] := by
  unfold turnI
  have h1 : n < az.reverse.length := by rw [List.length_reverse]; exact h
  rw [List.take_add_one, List.getElem?_eq_getElem h1, List.getElem_reverse]; rfl
theorem turnI_all (az : List Int) : turnI az az.length = az.reverse := by unfold turnI; rw [← List.length_reverse, List.take_length]
theorem perm_turn (az : List Int) : permA (backL az.length az.length) az.reverse = az := by
  apply List.ext_getElem
  · unfold permA; rw [List.length_map, backL_len]
  · intro i h1 h2
    simp only [permA, backL, List.map_map, List.getElem_map, List.getElem_range, Function.comp_apply, Int.toNat_natCast]
    have h3 : az.length - 1 - i < az.reverse.length := by rw [List.length_reverse]; omega
    simp only [List.getD, List.getElem?_eq_getElem h3, Option.getD_some, List.getElem_reverse]
    congr 1; omega
/-- the handle whose args are turned -/
def turnN (x : Nd) (T : ByteArray) (n : Nat) (va vs : Value) : Nd := ⟨6, T, 0, va, vs, backL n n, .cons x.k x.t x.a x.va x.vs x.ats x.subs .nil⟩
theorem turn_type {x : Nd} {ts : List (List UInt8)} {g : List UInt8} (h0 : (typeW x).1 = 0) (hm : methodOf (typeW x).2 = some (ts, g)) (hc : cnt x < 30) (va vs : Value) : typeW (turnN x (bs (makeText ts.reverse g)) ts.length va vs) = (0, makeText ts.reverse g) := by
  obtain ⟨_, hty⟩ := typeW_small h0
  rw [hty] at h0 hm
  have hcn : cnt (turnN x (bs (makeText ts.reverse g)) ts.length va vs) = 1 + cnt x := rfl
  unfold typeW
  rw [if_neg (by rw [hcn]; omega)]
  show nodeType 6 (makeText ts.reverse g) 0 (backL ts.length ts.length) ([x].map typeN) = _
  rw [node_perm h0]
  unfold permuteOf
  rw [hm, method_make (fault_reverse hm)]
  simp only
  rw [if_pos (backL_len _ _), if_pos (perm_back ts)]
theorem bad_turn {ts : List (List UInt8)} {az : List Int} (hl : ts.length = az.length) (h : rangeBad ts az = false) : rangeBad ts.reverse az.reverse = false := by
  rw [bad_at (by rw [List.length_reverse, List.length_reverse]; exact hl)]
  intro i t n ht hn hI
  have hi : i < ts.length := by have := (List.getElem?_eq_some_iff.1 ht).1; rwa [List.length_reverse] at this
  rw [List.getElem?_reverse hi] at ht
  rw [List.getElem?_reverse (by omega)] at hn
  exact (bad_at hl).1 h (ts.length - 1 - i) t n ht (by rw [hl]; exact hn) hI
theorem turn_call {x : Nd} {az : List Int} {n : Int} {ts : List (List UInt8)} {g : List UInt8} (h : callW x az = (0, n)) (hm : methodOf (typeW x).2 = some (ts, g)) (hc : cnt x < 30) (va vs : Value) : callW (turnN x (bs (makeText ts.reverse g)) ts.length va vs) az.reverse = (0, n) := by
  obtain ⟨ts', g', h0, hm', hl, hb, ht⟩ := call_ok h
  rw [hm] at hm'
  cases hm'
  have hT := turn_type h0 hm hc va vs
  refine call_is (ts := ts.reverse) (g := g) (by rw [hT]) (by rw [hT]; exact method_make (fault_reverse hm)) (by rw [List.length_reverse, List.length_reverse]; exact hl) (bad_turn hl hb) ?_
  rw [told_one (y := x) rfl (by show ¬ (6 : Int) = 1; decide) (by show ¬ (6 : Int) = 3; decide), if_neg (by show ¬ (6 : Int) = 4; decide)]
  show toldN x (permA (backL ts.length ts.length) az.reverse) = _
  rw [hl, perm_turn]; exact ht

/-- after k rounds: the types, the places and the args, turned -/
structure TRel (w0 w : World) (ts : List (List UInt8)) (az : List Int) (k : Nat) (v1 v2 v3 : Value) : Prop where
  o1 : Out w0 w 9 1 v1 k ((turnL ts k).map sv)
  o2 : Out w0 w 3 1 v2 k ((backL ts.length k).map iv)
  o3 : Out w0 w 3 1 v3 k ((turnI az k).map iv)
  a12 : Apart v1 v2
  a13 : Apart v1 v3
  a23 : Apart v2 v3
theorem infoStrC : (Tryd.prog.info? 9).map (fun i => (i.zero, i.size, i.bytes)) = some (some (.string { data := #[] }), 1, 16) := by kernel_rfl
/-- one handle in a block of its own -/
def rowR (x : Nd) (va vs : Value) : Value → World → Prop := fun v u => ∃ H, v = .slice (some ⟨H, 0, none⟩) 1 1 ∧ u.heap[H]? = some (.cells #[.int .i64 x.k, .string x.t, .int .i64 x.a, va, vs] 25 (0, 0))
theorem rowR_stays (x : Nd) (va vs : Value) : ∀ v u u', Below u.heap.size u u' → rowR x va vs v u → rowR x va vs v u' := by
  rintro v u u' hb ⟨H, rfl, h⟩
  exact ⟨H, rfl, (hb.block H (Array.getElem?_eq_some_iff.1 h).1).trans h⟩
def turnR (T : ByteArray) (x : Nd) (va vs vb : Value) : Value → World → Prop := fun v u => ∃ H, v = .agg #[.int .i64 6, .string T, .int .i64 0, vb, .slice (some ⟨H, 0, none⟩) 1 1] ∧ rowR x va vs (.slice (some ⟨H, 0, none⟩) 1 1) u
theorem turnR_stays (T : ByteArray) (x : Nd) (va vs vb : Value) : ∀ v u u', Below u.heap.size u u' → turnR T x va vs vb v u → turnR T x va vs vb v u' := by
  rintro v u u' hb ⟨H, rfl, h⟩
  exact ⟨H, rfl, rowR_stays x va vs _ _ _ hb h⟩
theorem rowR_sl {x : Nd} {v : Value} {u : World} (h : rowR x x.va x.vs v u) : Sl u v 1 5 ([x].flatMap Nd.cells) := by
  obtain ⟨H, rfl, h⟩ := h
  refine ⟨rfl, _, _, rfl, Nat.le_refl _, .inr ⟨_, _, rfl, fun j q hj => ?_⟩⟩
  rw [Nat.zero_add, cell_of_row _ _ _ _ _ _ h]
  simpa [Nd.cells] using hj

set_option maxRecDepth 100000 in
set_option maxHeartbeats 8000000 in
theorem callturns_any (x : Nd) (va : Value) (az : List Int) (w : World) (hx : NAt w x) (hS : ShortN x) (hB : cnt x ≤ 1000000000000) (haz : Sl w va az.length 1 (az.map iv)) (hn : az.length ≤ 1000000000000) :
    Calls Tryd.prog 5 #[.agg #[.int .i64 x.k, .string x.t, .int .i64 x.a, x.va, x.vs], va] w fun e w' => e = .returned (.bool true) ∧ Below w.heap.size w w' := by
  have HT := hid (fun u (hu : Below w.heap.size w u) => type_any x u (hx.below hu) hS hB)
  have HC := hid (fun u (hu : Below w.heap.size w u) => call_any x va az u (hx.below hu) hS hB (haz.below hu) hn)
  have HZ := hid (fun u (hu : Below w.heap.size w u) => rsize_any (cnt x) x u (Nat.le_refl _) (hx.below hu) hB)
  have HAZ0 := hid haz
  have HXN := hid hx
  have HSN := hid hS
  obtain ⟨R, hR⟩ : ∃ R, typeW x = R := ⟨_, rfl⟩
  obtain ⟨RC, hRC⟩ : ∃ RC, callW x az = RC := ⟨_, rfl⟩
  have HOK : Hid (RC.1 = 0 → R.1 = 0 ∧ ∃ ts g, methodOf R.2 = some (ts, g) ∧ R.2.length ≤ 200 ∧ ts.length = az.length ∧ (cnt x < 30 → ∀ va vs, callW (turnN x (bs (makeText ts.reverse g)) ts.length va vs) az.reverse = (0, RC.2))) := hid (fun h => by
    have hc : callW x az = (0, RC.2) := by rw [hRC, ← h]
    obtain ⟨ts, g, h0, hm, hl, _⟩ := call_ok hc
    refine ⟨hR ▸ h0, ts, g, hR ▸ hm, hR ▸ short_of hm, hl, fun h30 va vs => turn_call hc hm h30 va vs⟩)
  obtain ⟨a1, c1, e1⟩ := hx.1.1.val
  obtain ⟨a2, c2, e2⟩ := hx.1.2.val
  obtain ⟨aa, ca, rfl⟩ := haz.val
  obtain ⟨k0, hk⟩ : ∃ q, x.k = q := ⟨_, rfl⟩
  obtain ⟨t, ht⟩ : ∃ q, x.t = q := ⟨_, rfl⟩
  obtain ⟨a, ha⟩ : ∃ q, x.a = q := ⟨_, rfl⟩
  obtain ⟨n1, hn1⟩ : ∃ q, x.ats.length = q := ⟨_, rfl⟩
  obtain ⟨n2, hn2⟩ : ∃ q, (nodes x.subs).length = q := ⟨_, rfl⟩
  rw [hn1] at e1
  rw [hn2] at e2
  simp only [hR, hRC, hk, ht, ha, e1, e2] at HT HC HZ ⊢
  unfold Called at HC
  unfold Go.Proofs.YtogpgfaojmmemaaDoor.mtypes.Told at HT
  obtain ⟨c, hc⟩ : ∃ q, cnt x = q := ⟨_, rfl⟩
  have HCN := hid hc
  simp only [hc] at HZ
  have HFL : Hid (∀ v1 v2, rowR x (.slice a1 n1 c1) (.slice a2 n2 c2) v1 v2 → Sl v2 v1 1 5 ([x].flatMap Nd.cells)) := hid (fun v u h => rowR_sl (by rw [e1, e2]; exact h))
  have HNX : Hid (x.k = k0 ∧ x.t = t ∧ x.a = a) := hid ⟨hk, ht, ha⟩
  have HAL := hid hn
  clear hk ht ha hn1 hn2 e1 e2 hx hB hS hR haz hRC hn hc
  obtain ⟨X1, hX1⟩ : ∃ X1, w.alloc (.cells #[.int .i64 k0, .string t, .int .i64 a, .slice a1 n1 c1, .slice a2 n2 c2] 25) = X1 := ⟨_, rfl⟩
  have HB1 : Hid (Below w.heap.size w X1) := hid (hX1 ▸ ext_alloc _ _)
  have HLT : Hid (w.heap.size < X1.heap.size) := hid (by rw [← hX1]; simp)
  have HXR : Hid (X1.heap[w.heap.size]? = some (.cells #[.int .i64 k0, .string t, .int .i64 a, .slice a1 n1 c1, .slice a2 n2 c2] 25 (0, 0))) := hid (by rw [← hX1]; exact heap_alloc_new _ _)
  have HX : Hid (∀ u, Below X1.heap.size X1 u → u.cell? ⟨w.heap.size, 0, none⟩ = some (.int .i64 k0) ∧ u.cell? ⟨w.heap.size, 1, none⟩ = some (.string t) ∧ u.cell? ⟨w.heap.size, 2, none⟩ = some (.int .i64 a) ∧ u.cell? ⟨w.heap.size, 3, none⟩ = some (.slice a1 n1 c1) ∧ u.cell? ⟨w.heap.size, 4, none⟩ = some (.slice a2 n2 c2)) := hid (fun u hu => by
    have h := (hu.block _ HLT.out).trans HXR.out
    refine ⟨?_, ?_, ?_, ?_, ?_⟩ <;> (rw [cell_of_row _ _ _ _ _ _ h]; rfl))
  go_enter Tryd.func5, Tryd.ntmps5
  go_wp2_with fail
  refine (summed_any _).mono ?_
  rintro e w2 ⟨rfl, hb2⟩
  have H12 := hid hb2
  have HB2 := hid (HB1.out.trans (hb2.mono HB1.out.size))
  obtain ⟨x0, x1, x2, x3, x4⟩ := HX.out _ hb2
  clear hb2
  go_wp2_with fail
  refine (HC.out _ HB2.out).mono ?_
  rintro e w3 ⟨rfl, hb3⟩
  have H13 := hid (H12.out.trans (hb3.mono H12.out.size))
  have HB3 := hid (HB2.out.trans (hb3.mono HB2.out.size))
  obtain ⟨x0, x1, x2, x3, x4⟩ := HX.out _ H13.out
  clear hb3
  go_wp2_with fail
  refine (HT.out _ HB3.out).mono ?_
  rintro e w4 ⟨rfl, hb4⟩
  have H14 := hid (H13.out.trans (hb4.mono H13.out.size))
  have HB4 := hid (HB3.out.trans (hb4.mono HB3.out.size))
  obtain ⟨x0, x1, x2, x3, x4⟩ := HX.out _ H14.out
  clear hb4
  obtain ⟨z, n⟩ := RC
  by_cases hz : z = 0
  · obtain ⟨h0, ts, g, hm, hsz, hl, hcall⟩ := HOK.out hz
    rw [show errVal (z, n).1 = .nilIface from by unfold errVal; rw [if_pos hz], show errVal R.1 = .nilIface from by unfold errVal; rw [if_pos h0]]
    have HM := hid hm
    have HS : Hid ((bs R.2).size ≤ 10000000) := hid (by rw [bs_size]; omega)
    have HL := hid hl
    have HCALL := hid hcall
    have HFR := hid (fault_reverse hm)
    have HZ0 := hid hz
    have hts5 : ts.length ≤ 5 := (types_small hm).1
    clear h0 hm hsz HOK hcall hz
    go_wp2_with fail
    refine (HZ.out _ HB4.out).mono ?_
    rintro e w5 ⟨r, rfl, hr, hb5⟩
    have H15 := hid (H14.out.trans (hb5.mono H14.out.size))
    have HB5 := hid (HB4.out.trans (hb5.mono HB4.out.size))
    obtain ⟨x0, x1, x2, x3, x4⟩ := HX.out _ H15.out
    have HR := hid hr
    clear hb5 hr
    by_cases h30 : (30 : Int) ≤ r
    · clear hl
      go_wp2
      go_ret
      exact ⟨rfl, HB5.out⟩
    · have HC30 : Hid (cnt x < 30) := hid (by
        have := HR.out.2.2 (by omega)
        rw [HCN.out]; omega)
      have h30 : r < 30 := by omega
      clear hl
      go_wp2_with fail
      refine (methodOf_any _ _ HS.out).mono ?_
      intro e w6 h6
      obtain ⟨v6, rfl, ho6⟩ : ∃ v, e = .returned (.tuple #[v, .string (bs g), .bool true]) ∧ Out w5 w6 9 1 v ts.length (ts.map sv) := by
        unfold MethodSaid at h6
        rw [show (bs R.2).data.toList = R.2 from rfl, HM.out] at h6
        exact h6
      have H16 := hid (H15.out.trans (ho6.below.mono H15.out.size))
      have HB6 := hid (HB5.out.trans (ho6.below.mono HB5.out.size))
      obtain ⟨x0, x1, x2, x3, x4⟩ := HX.out _ H16.out
      have HTS := hid ho6.sl
      obtain ⟨a6, c6, rfl⟩ := HTS.out.val
      clear h6 ho6
      have HAZ6 := hid (HAZ0.out.below HB6.out)
      have hl0 : ((ts.length : Int) == (az.length : Int)) = true := by simp [HL.out]
      have hl1 : ((ts.length : Int) != (az.length : Int)) = false := by simp [HL.out]
      go_wp2_with fail
      go_loopw [13, 14, 15, 16] (fun v1 v2 v3 i wr => ∃ k : Nat, k ≤ ts.length ∧ i = .int .i64 ((ts.length : Int) - 1 - k) ∧ Hid (TRel w6 wr ts az k v1 v2 v3)) (fun _ _ _ i _ => ((intOf i) + 1).toNat)
      case atStart => exact ⟨0, Nat.zero_le _, by simp, hid ⟨Out.nil _ _ _, Out.nil _ _ _, Out.nil _ _ _, apart_nil _ _ _, apart_nil _ _ _, apart_nil _ _ _⟩⟩
      case round =>
        obtain ⟨k, hk, rfl, HRL⟩ := hrel
        by_cases hlt : k < ts.length
        · obtain ⟨q, hq⟩ : ∃ q : Nat, ts.length - 1 - k = q := ⟨_, rfl⟩
          have hq1 : q < ts.length := by omega
          have hqa : q < az.length := by have := HL.out; omega
          have hqi : (ts.length : Int) - 1 - (k : Int) = (q : Int) := by omega
          have hq0 : (0 : Int) ≤ (q : Int) := by omega
          have hq2 : (q : Int) < (ts.length : Int) := by omega
          have hq3 : (q : Int) < (az.length : Int) := by omega
          have HQ := hid hq
          have HQI := hid hqi
          obtain ⟨bx, ox, hax, hcx⟩ := sl_sv (HTS.out.below HRL.out.o1.below) hq1
          subst hax
          rw [hqi]
          clear hq hqi
          go_wp2_with (at_builtin; refine wpList_append_lit_at w6 wr _ rfl _ _ 33 rfl 9 (.string { data := #[] }) 1 16 1 Tryd.underlying33 infoStrC rfl (by decide) _ _ _ HRL.out.o1 rfl rfl rfl ?_ ?_ ?_ ?_)
          all_goals first | (intro v1' wa ho1 hg1 hat1) | omega | (simp [Value.oneCell', sv]; done) | skip
          have O2 := hid (HRL.out.o1.beside HRL.out.o2 HRL.out.a12 hg1)
          have O3 := hid (HRL.out.o1.beside HRL.out.o3 HRL.out.a13 hg1)
          have A12 := hid (HRL.out.a12.step HRL.out.o2 hat1)
          have A13 := hid (HRL.out.a13.step HRL.out.o3 hat1)
          have O1 := hid ho1
          clear ho1 hg1 hat1 hcx
          go_wp2_with (at_builtin; refine wpList_append_lit_at w6 wa _ rfl _ _ 22 rfl 3 (.int .i64 0) 1 8 1 Tryd.underlying22 infoI rfl (by decide) _ _ _ O2.out rfl rfl rfl ?_ ?_ ?_ ?_)
          all_goals first | (intro v2' wb ho2 hg2 hat2) | omega | (simp [Value.oneCell']; done) | skip
          have O1b := hid (O2.out.beside O1.out A12.out.symm hg2)
          have O3b := hid (O2.out.beside O3.out HRL.out.a23 hg2)
          have A12b := hid (A12.out.symm.step O1.out hat2).symm
          have A23b := hid (HRL.out.a23.step O3.out hat2)
          have O2b := hid ho2
          clear ho2 hg2 hat2 O1 O2 O3
          obtain ⟨by_, oy, hay, hcy⟩ := Sl.ints (K := .i64) (HAZ6.out.below O3b.out.below) hqa
          cases hay
          go_wp2_with (at_builtin; refine wpList_append_lit_at w6 wb _ rfl _ _ 22 rfl 3 (.int .i64 0) 1 8 1 Tryd.underlying22 infoI rfl (by decide) _ _ _ O3b.out rfl rfl rfl ?_ ?_ ?_ ?_)
          all_goals first | (intro v3' wc ho3 hg3 hat3) | omega | (simp [Value.oneCell']; done) | skip
          have O1c := hid (O3b.out.beside O1b.out A13.out.symm hg3)
          have O2c := hid (O3b.out.beside O2b.out A23b.out.symm hg3)
          have A13c := hid (A13.out.symm.step O1b.out hat3).symm
          have A23c := hid (A23b.out.symm.step O2b.out hat3).symm
          have O3c := hid ho3
          clear ho3 hg3 hat3 hcy
          go_wp2
          go_roundw
          case rel =>
            refine ⟨k + 1, by omega, by have := HQI.out; first | (simp; done) | (simp; omega), hid ⟨?_, ?_, ?_, A12b.out, A13c.out, A23c.out⟩⟩
            · rw [turnL_step hlt, List.map_append]; have := O1c.out; rw [show ts[ts.length - 1 - k] = ts[q] from by simp only [HQ.out]]; exact this
            · rw [backL_step, List.map_append, HQ.out]; exact O2c.out
            · rw [turnI_step (by have := HL.out; omega), List.map_append]; have := O3c.out; rw [show az[az.length - 1 - k]'(by have := HL.out; omega) = az[q] from by simp only [← HL.out, HQ.out]]; exact this
          case measure => have := HQI.out; first | (simp [intOf]; done) | (simp [intOf]; omega)
        · obtain rfl : k = ts.length := by omega
          have hm1 : (ts.length : Int) - 1 - (ts.length : Int) = -1 := by omega
          have hb7 := HRL.out.o1.below
          have H17 := hid (H16.out.trans (hb7.mono H16.out.size))
          have HB7 := hid (HB6.out.trans (hb7.mono HB6.out.size))
          have L1 := hid HRL.out.o1.sl; have L2 := hid HRL.out.o2.sl; have L3 := hid HRL.out.o3.sl
          obtain ⟨a1', c1', rfl⟩ := HRL.out.o1.sl.val
          obtain ⟨a2', c2', rfl⟩ := HRL.out.o2.sl.val
          obtain ⟨a3', c3', rfl⟩ := HRL.out.o3.sl.val
          rw [turnL_all] at L1
          have L1' : Hid (Sl wr (.slice a1' ts.length c1') ts.reverse.length 1 (ts.reverse.map sv)) := hid (by rw [List.length_reverse]; exact L1.out)
          have L2' : Hid (Sl wr (.slice a2' ts.length c2') (backL ts.length ts.length).length 1 ((backL ts.length ts.length).map (.int .i64))) := hid (by rw [backL_len]; exact L2.out)
          have L3' : Hid (Sl wr (.slice a3' ts.length c3') az.reverse.length 1 (az.reverse.map iv)) := hid (by
            have h := L3.out
            rw [HL.out, turnI_all] at h
            rw [List.length_reverse, HL.out]; exact h)
          clear HRL L1 L2 L3 hb7 x0 x1 x2 x3 x4
          rw [hm1]
          clear hm1
          go_wp2_with fail
          have HSH : Hid (∀ (va vs : Value), ShortN (turnN x (bs (makeText ts.reverse g)) ts.length va vs)) := hid (fun va vs => ⟨by
            have := (text_small HFR.out).2.2.2.1
            show (bs (makeText ts.reverse g)).size ≤ _
            rw [bs_size]; omega, HSN.out.1, HSN.out.2, trivial⟩)
          have HCB : Hid (∀ (va vs : Value), cnt (turnN x (bs (makeText ts.reverse g)) ts.length va vs) ≤ 30) := hid (fun va vs => by
            have := HC30.out
            show 1 + cnt x ≤ 30
            omega)
          refine wp_region_ext [(3, is (.string (bs (makeText ts.reverse g)))), (5, rowR x (.slice a1 n1 c1) (.slice a2 n2 c2)), (6, turnR (bs (makeText ts.reverse g)) x (.slice a1 n1 c1) (.slice a2 n2 c2) (.slice a2' ts.length c2')), (8, is (.tuple #[.int .i64 n, .nilIface]))] ⟨is_stays _, rowR_stays _ _ _, turnR_stays _ _ _ _ _, is_stays _, trivial⟩ (by kernel_rfl) (by kernel_rfl) ?_
          refine wpG_calc 1 rfl rfl rfl (fun u => by go_simp; rfl) ?_
          simp only [Act.put, List.setIfInBounds_toArray, List.set_cons_zero, List.set_cons_succ]
          refine wpG_calc 2 rfl rfl rfl (fun u => by go_simp; rfl) ?_
          simp only [Act.put, List.setIfInBounds_toArray, List.set_cons_zero, List.set_cons_succ]
          refine wpG_calc 3 rfl rfl rfl (fun u => by go_simp; rfl) ?_
          simp only [Act.put, List.setIfInBounds_toArray, List.set_cons_zero, List.set_cons_succ]
          refine wpG_rel 4 rfl rfl rfl ?_ ?_
          · intro u hu hh
            go_simp
            refine (text_types _ ts.reverse g _ (L1'.out.below (hu)) HFR.out).mono ?_
            rintro e w6' ⟨rfl, rfl⟩
            exact ⟨_, rfl, rfl, Below.refl _ _⟩
          intro vT ⟨uT, _, hrT⟩
          obtain rfl : vT = .string (bs (makeText ts.reverse g)) := hrT
          simp only [Act.put, List.setIfInBounds_toArray, List.set_cons_zero, List.set_cons_succ]
          refine wpG_read 5 rfl rfl (.agg #[.int .i64 k0, .string t, .int .i64 a, .slice a1 n1 c1, .slice a2 n2 c2]) rfl ?_ ?_
          · intro u hu hh
            obtain ⟨y0, y1, y2, y3, y4⟩ := HX.out u (H17.out.trans (hu.mono H17.out.size))
            go_simp
          simp only [Act.put, List.setIfInBounds_toArray, List.set_cons_zero, List.set_cons_succ]
          refine wpG_rel 6 rfl rfl rfl ?_ ?_
          · intro u hu hh
            go_simp
            exact ⟨⟨_, rfl, by rw [HNX.out.1, HNX.out.2.1, HNX.out.2.2]; exact heap_alloc_new _ _⟩, ext_alloc _ _⟩
          intro vS ⟨uS, _, hrS⟩
          obtain ⟨gS, rfl, -⟩ := hrS
          simp only [Act.put, List.setIfInBounds_toArray, List.set_cons_zero, List.set_cons_succ]
          refine wpG_rel 7 rfl rfl rfl ?_ ?_
          · intro u hu hh
            have hs5 : rowR x (.slice a1 n1 c1) (.slice a2 n2 c2) (.slice (some ⟨gS, 0, none⟩) 1 1) u := hh 5 rfl
            go_simp
            exact ⟨⟨gS, rfl, hs5⟩, Below.refl _ _⟩
          intro vG ⟨uG, _, hrG⟩
          obtain ⟨gS2, rfl, -⟩ := hrG
          simp only [Act.put, List.setIfInBounds_toArray, List.set_cons_zero, List.set_cons_succ]
          refine wpG_calc 8 rfl rfl rfl (fun u => by go_simp; rfl) ?_
          simp only [Act.put, List.setIfInBounds_toArray, List.set_cons_zero, List.set_cons_succ]
          refine wpG_rel 9 rfl rfl rfl ?_ ?_
          · intro u hu hh
            obtain ⟨gS3, hs6, hs7⟩ : turnR (bs (makeText ts.reverse g)) x (.slice a1 n1 c1) (.slice a2 n2 c2) (.slice a2' ts.length c2') _ u := hh 6 rfl
            cases hs6
            have HBu := hid (HB7.out.trans (hu.mono HB7.out.size))
            have HNT : Hid (NAt u (turnN x (bs (makeText ts.reverse g)) ts.length (.slice a2' ts.length c2') (.slice (some ⟨gS2, 0, none⟩) 1 1))) := hid ⟨⟨L2'.out.below hu, HFL.out _ _ hs7⟩, (HXN.out.below HBu.out).1, (HXN.out.below HBu.out).2, trivial⟩
            clear hs7
            go_simp
            refine (call_any (turnN x (bs (makeText ts.reverse g)) ts.length (.slice a2' ts.length c2') (.slice (some ⟨gS2, 0, none⟩) 1 1)) _ az.reverse u HNT.out (HSH.out _ _) (Nat.le_trans (HCB.out _ _) (by decide)) (L3'.out.below hu) (by rw [List.length_reverse]; exact HAL.out)).mono ?_
            rw [HCALL.out HC30.out]
            rintro e w9 ⟨rfl, hb9⟩
            exact ⟨_, rfl, rfl, hb9⟩
          intro vC ⟨uC, _, hrC⟩
          obtain rfl : vC = .tuple #[.int .i64 n, .nilIface] := hrC
          simp only [Act.put, List.setIfInBounds_toArray, List.set_cons_zero, List.set_cons_succ]
          refine wpG_calc 10 rfl rfl rfl (fun u => by go_simp; rfl) ?_
          simp only [Act.put, List.setIfInBounds_toArray, List.set_cons_zero, List.set_cons_succ]
          refine wpG_calc 11 rfl rfl rfl (fun u => by go_simp; rfl) ?_
          simp only [Act.put, List.setIfInBounds_toArray, List.set_cons_zero, List.set_cons_succ]
          refine wpG_calc 12 rfl rfl rfl (fun u => by go_simp; rfl) ?_
          simp only [Act.put, List.setIfInBounds_toArray, List.set_cons_zero, List.set_cons_succ]
          refine wpG_calc 13 rfl rfl rfl (fun u => by go_simp; rfl) ?_
          simp only [Act.put, List.setIfInBounds_toArray, List.set_cons_zero, List.set_cons_succ]
          refine wpG_calc 14 rfl rfl rfl (fun u => by go_simp; rfl) ?_
          simp only [Act.put, List.setIfInBounds_toArray, List.set_cons_zero, List.set_cons_succ]
          refine wpG_nil fun w8 hb8 hF => ?_
          clear hF
          have HB8 := hid (HB7.out.trans (hb8.mono HB7.out.size))
          clear hb8
          go_wp2
          go_ret
          exact ⟨rfl, HB8.out⟩
  · rw [show errVal (z, n).1 = .iface 41 (.int .i64 z) from by unfold errVal; rw [if_neg hz]]
    clear HOK hz
    go_wp2
    go_ret
    exact ⟨rfl, HB4.out⟩
end Go.Proofs.YtogpgfaojmmemaaDoor.hands
