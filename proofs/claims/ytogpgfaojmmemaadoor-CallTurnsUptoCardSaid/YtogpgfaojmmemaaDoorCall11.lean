/- Handles called: the laws' own first look (summed); CallRange's walk. Conditions: the handle is not too great, its texts and the args are not long; numbers are of 64 bits. -/
import Derived.Test.YtogpgfaojmmemaaDoorCall9
import Derived.Test.YtogpgfaojmmemaaDoorHandP
import Derived.Test.YtogpgfaojmmemaaDoorIns1
import Derived.Test.YtogpgfaojmmemaaDoorDesc5
set_option linter.unusedSimpArgs false
set_option linter.unusedVariables false
namespace Go.Proofs.YtogpgfaojmmemaaDoor.hands
open Go.RowKit Go.Proofs.YtogpgfaojmmemaaDoor.lib Go.Proofs.YtogpgfaojmmemaaDoor.errs Go.Proofs.YtogpgfaojmmemaaDoor.descs Go.Proofs.YtogpgfaojmmemaaDoor.mtypes Go.Proofs.YtogpgfaojmmemaaDoor.nums

theorem call_ok {x : Nd} {az : List Int} {n : Int} (h : callW x az = (0, n)) : ∃ ts g, (typeW x).1 = 0 ∧ methodOf (typeW x).2 = some (ts, g) ∧ ts.length = az.length ∧ rangeBad ts az = false ∧ toldN x az = some n := by
  by_cases h0 : (typeW x).1 = 0
  · obtain ⟨ts, g, hm⟩ := right_typeW x h0
    rw [call_rest h0 hm] at h
    by_cases hl : ts.length = az.length
    · cases hb : rangeBad ts az with
      | true => rw [rest_bad hl hb] at h; cases h
      | false =>
        rw [rest_end hl hb] at h
        cases ht : toldN x az with
        | none => rw [ht] at h; cases h
        | some m =>
          rw [ht] at h
          cases h
          exact ⟨ts, g, h0, hm, hl, hb, rfl⟩
    · rw [rest_len hl] at h; cases h
  · rw [call_bad rfl h0] at h
    exact absurd (Prod.mk.inj h).1 h0
theorem call_zero {x : Nd} {az : List Int} (h : ¬ (callW x az).1 = 0) : (callW x az).2 = 0 := by
  by_cases h0 : (typeW x).1 = 0
  · obtain ⟨ts, g, hm⟩ := right_typeW x h0
    rw [call_rest h0 hm] at h ⊢
    by_cases hl : ts.length = az.length
    · cases hb : rangeBad ts az with
      | true => rw [rest_bad hl hb]
      | false =>
        rw [rest_end hl hb] at h ⊢
        cases ht : toldN x az with
        | none => rfl
        | some m => rw [ht] at h; exact absurd rfl h
    · rw [rest_len hl]
  · rw [call_bad rfl h0]
theorem call_is {x : Nd} {az : List Int} {n : Int} {ts : List (List UInt8)} {g : List UInt8} (h0 : (typeW x).1 = 0) (hm : methodOf (typeW x).2 = some (ts, g)) (hl : ts.length = az.length) (hb : rangeBad ts az = false) (ht : toldN x az = some n) : callW x az = (0, n) := by
  rw [call_rest h0 hm, rest_end hl hb, ht]; rfl
theorem wrap_fit {a : Int} (h : a = wrap32 a) : -2147483648 ≤ a ∧ a ≤ 2147483647 := by unfold wrap32 at h; omega
theorem fit_is {a : Int} (h : -2147483648 ≤ a ∧ a ≤ 2147483647) : a = wrap32 a := by unfold wrap32; omega
theorem bad_at {ts : List (List UInt8)} {az : List Int} (hl : ts.length = az.length) : rangeBad ts az = false ↔ ∀ (i : Nat) (t : List UInt8) (n : Int), ts[i]? = some t → az[i]? = some n → t = [73] → n = wrap32 n := by
  induction ts generalizing az with
  | nil => simp [rangeBad]
  | cons t ts ih =>
    cases az with
    | nil => cases hl
    | cons a az =>
      have hl' : ts.length = az.length := by simpa using hl
      rw [show rangeBad (t :: ts) (a :: az) = ((decide (t = [73]) && !decide (a = wrap32 a)) || rangeBad ts az) from rfl, Bool.or_eq_false_iff, ih hl']
      constructor
      · rintro ⟨h1, h2⟩ i t' n ht hn hI
        cases i with
        | zero =>
          simp at ht hn
          subst ht hn
          simpa [hI] using h1
        | succ i => exact h2 i t' n (by simpa using ht) (by simpa using hn) hI
      · intro h
        refine ⟨?_, fun i t' n ht hn hI => h (i + 1) t' n (by simpa using ht) (by simpa using hn) hI⟩
        by_cases hI : t = [73]
        · have := h 0 t a rfl rfl hI
          simp [hI, ← this]
        · simp [hI]
theorem fits_of {ts : List (List UInt8)} {az : List Int} (hl : ts.length = az.length) (hb : rangeBad ts az = false) (hin : ∀ z ∈ az, InR z) : Fits ts az :=
  ⟨hl, fun i t n ht hn => ⟨hin n (List.mem_of_getElem? hn), fun hI => wrap_fit ((bad_at hl).1 hb i t n ht hn hI)⟩⟩
theorem range_plain {x : Nd} {az : List Int} {n : Int} {ts : List (List UInt8)} {g : List UInt8} (h : callW x az = (0, n)) (hm : methodOf (typeW x).2 = some (ts, g)) (hN : NumN x) (hin : ∀ z ∈ az, InR z) : Fit g n := by
  obtain ⟨ts', g', h0, hm', hl, hb, ht⟩ := call_ok h
  rw [hm] at hm'
  cases hm'
  obtain ⟨_, hty⟩ := typeW_small h0
  rw [hty] at h0 hm
  exact told_fit (right_of (cnt x) x ts g (Nat.le_refl _) h0 hm) hN az n (fits_of hl hb hin) ht

def plusN : Nd := ⟨3, { data := #[73] }, 1, .slice none 0 0, .slice none 0 0, [], .nil⟩
theorem plus_call : callW plusN [2147483647, 1] = (0, -2147483648) := by
  have h1 : typeN plusN = (0, makeText [[73], [73]] [73]) := leaf_type [] (by decide) (by decide)
  have h2 : typeW plusN = (0, makeText [[73], [73]] [73]) := by
    unfold typeW
    rw [if_neg (by show ¬ 30 < 1; decide), h1]
  refine call_is (ts := [[73], [73]]) (g := [73]) (by rw [h2]) (by rw [h2]; exact method_make (by decide)) rfl (by decide +kernel) ?_
  decide +kernel

set_option maxRecDepth 100000 in
set_option maxHeartbeats 4000000 in
theorem summed_any (w : World) : Calls Tryd.prog 10 #[] w fun e w' => e = .returned (.bool true) ∧ Below w.heap.size w w' := by
  go_enter Tryd.func10, Tryd.ntmps10
  go_wp2_with fail
  refine (plus_any _).mono ?_
  rintro e w1 ⟨rfl, hb1⟩
  have HB1 := hid hb1
  have HB2 : Hid (Below w.heap.size w (w1.alloc (.cells #[.int .i64 2147483647, .int .i64 1] 3))) := hid (HB1.out.alloc HB1.out.size _)
  have HSL : Hid (Sl (w1.alloc (.cells #[.int .i64 2147483647, .int .i64 1] 3)) (.slice (some ⟨w1.heap.size, 0, none⟩) 2 2) ([2147483647, 1] : List Int).length 1 (([2147483647, 1] : List Int).map iv)) := hid (Sl.lit w1 #[.int .i64 2147483647, .int .i64 1] 3 2 1 rfl)
  clear hb1
  go_wp2_with fail
  refine (call_any plusN _ [2147483647, 1] _ ⟨⟨sl_none _, sl_none5 _⟩, trivial⟩ ⟨by decide, trivial⟩ (by decide) HSL.out (by decide)).mono ?_
  rw [plus_call]
  rintro e w3 ⟨rfl, hb3⟩
  have HB3 := hid (HB2.out.trans (hb3.mono HB2.out.size))
  clear hb3
  rw [show errVal ((0, -2147483648) : Int × Int).1 = .nilIface from rfl]
  go_wp2
  go_ret
  exact ⟨rfl, HB3.out⟩

set_option maxRecDepth 100000 in
set_option maxHeartbeats 4000000 in
theorem callrange_any (x : Nd) (va : Value) (az : List Int) (w : World) (hx : NAt w x) (hS : ShortN x) (hB : cnt x ≤ 1000000000000) (haz : Sl w va az.length 1 (az.map iv)) (hn : az.length ≤ 1000000000000) (hN : NumN x) (hin : ∀ z ∈ az, InR z) :
    Calls Tryd.prog 3 #[.agg #[.int .i64 x.k, .string x.t, .int .i64 x.a, x.va, x.vs], va] w fun e w' => e = .returned (.bool true) ∧ Below w.heap.size w w' := by
  have HT := hid (fun u (hu : Below w.heap.size w u) => type_any x u (hx.below hu) hS hB)
  have HC := hid (fun u (hu : Below w.heap.size w u) => call_any x va az u (hx.below hu) hS hB (haz.below hu) hn)
  obtain ⟨R, hR⟩ : ∃ R, typeW x = R := ⟨_, rfl⟩
  obtain ⟨RC, hRC⟩ : ∃ RC, callW x az = RC := ⟨_, rfl⟩
  have HZ : Hid (¬ RC.1 = 0 → RC.2 = 0) := hid (fun h => by rw [← hRC] at h ⊢; exact call_zero h)
  have HOK : Hid (RC.1 = 0 → R.1 = 0 ∧ ∃ ts g, methodOf R.2 = some (ts, g) ∧ R.2.length ≤ 200 ∧ (g = [73] → -2147483648 ≤ RC.2 ∧ RC.2 ≤ 2147483647)) := hid (fun h => by
    have hc : callW x az = (0, RC.2) := by rw [hRC, ← h]
    obtain ⟨ts, g, h0, hm, _⟩ := call_ok hc
    have := range_plain hc hm hN hin
    rw [hR] at h0 hm
    exact ⟨h0, ts, g, hm, short_of hm, this.2⟩)
  obtain ⟨a1, c1, e1⟩ := hx.1.1.val
  obtain ⟨a2, c2, e2⟩ := hx.1.2.val
  obtain ⟨aa, ca, rfl⟩ := haz.val
  obtain ⟨k0, hk⟩ : ∃ q, x.k = q := ⟨_, rfl⟩
  obtain ⟨t, ht⟩ : ∃ q, x.t = q := ⟨_, rfl⟩
  obtain ⟨a, ha⟩ : ∃ q, x.a = q := ⟨_, rfl⟩
  obtain ⟨n1, hn1⟩ : ∃ q, x.ats.length = q := ⟨_, rfl⟩
  obtain ⟨n2, hn2⟩ : ∃ q, (nodes x.subs).length = q := ⟨_, rfl⟩
  obtain ⟨n3, hn3⟩ : ∃ q, az.length = q := ⟨_, rfl⟩
  rw [hn1] at e1
  rw [hn2] at e2
  simp only [hR, hRC, hk, ht, ha, e1, e2, hn3] at HT HC ⊢
  unfold Called at HC
  unfold Go.Proofs.YtogpgfaojmmemaaDoor.mtypes.Told at HT
  clear hk ht ha hn1 hn2 hn3 e1 e2 hx hB hS hR haz hRC hN hin hn
  obtain ⟨X1, hX1⟩ : ∃ X1, w.alloc (.cells #[.int .i64 k0, .string t, .int .i64 a, .slice a1 n1 c1, .slice a2 n2 c2] 25) = X1 := ⟨_, rfl⟩
  have HB1 : Hid (Below w.heap.size w X1) := hid (hX1 ▸ ext_alloc _ _)
  have HLT : Hid (w.heap.size < X1.heap.size) := hid (by rw [← hX1]; simp)
  have HXR : Hid (X1.heap[w.heap.size]? = some (.cells #[.int .i64 k0, .string t, .int .i64 a, .slice a1 n1 c1, .slice a2 n2 c2] 25 (0, 0))) := hid (by rw [← hX1]; exact heap_alloc_new _ _)
  have HX : Hid (∀ u, Below X1.heap.size X1 u → u.cell? ⟨w.heap.size, 0, none⟩ = some (.int .i64 k0) ∧ u.cell? ⟨w.heap.size, 1, none⟩ = some (.string t) ∧ u.cell? ⟨w.heap.size, 2, none⟩ = some (.int .i64 a) ∧ u.cell? ⟨w.heap.size, 3, none⟩ = some (.slice a1 n1 c1) ∧ u.cell? ⟨w.heap.size, 4, none⟩ = some (.slice a2 n2 c2)) := hid (fun u hu => by
    have h := (hu.block _ HLT.out).trans HXR.out
    refine ⟨?_, ?_, ?_, ?_, ?_⟩ <;> (rw [cell_of_row _ _ _ _ _ _ h]; rfl))
  go_enter Tryd.func3, Tryd.ntmps3
  go_wp2_with fail
  refine (summed_any _).mono ?_
  rintro e w2 ⟨rfl, hb2⟩
  have H12 := hid hb2
  have HB2 := hid (HB1.out.trans (hb2.mono HB1.out.size))
  obtain ⟨x0, x1, x2, x3, x4⟩ := HX.out _ hb2
  clear hb2
  go_wp2_with fail
  refine (HC.out _ HB2.out).mono ?_
  rintro e w3 ⟨rfl, hb3⟩
  have H13 := hid (H12.out.trans (hb3.mono H12.out.size))
  have HB3 := hid (HB2.out.trans (hb3.mono HB2.out.size))
  obtain ⟨x0, x1, x2, x3, x4⟩ := HX.out _ H13.out
  clear hb3
  go_wp2_with fail
  refine (HT.out _ HB3.out).mono ?_
  rintro e w4 ⟨rfl, hb4⟩
  have HB4 := hid (HB3.out.trans (hb4.mono HB3.out.size))
  clear hb4 x0 x1 x2 x3 x4
  obtain ⟨z, n⟩ := RC
  by_cases hz : z = 0
  · obtain ⟨h0, ts, g, hm, hsz, hg⟩ := HOK.out hz
    rw [show errVal (z, n).1 = .nilIface from by unfold errVal; rw [if_pos hz], show errVal R.1 = .nilIface from by unfold errVal; rw [if_pos h0]]
    have HM := hid hm
    have HS : Hid ((bs R.2).size ≤ 10000000) := hid (by rw [bs_size]; omega)
    have HG := hid hg
    clear hz h0 hm hsz hg HOK HZ
    go_wp2_with fail
    refine (methodOf_any _ _ HS.out).mono ?_
    intro e w5 h5
    obtain ⟨v5, rfl, ho5⟩ : ∃ v, e = .returned (.tuple #[v, .string (bs g), .bool true]) ∧ Out w4 w5 9 1 v ts.length (ts.map sv) := by
      unfold MethodSaid at h5
      rw [show (bs R.2).data.toList = R.2 from rfl, HM.out] at h5
      exact h5
    have HB5 := hid (HB4.out.trans (ho5.below.mono HB4.out.size))
    clear h5 ho5
    by_cases hI : g = [73]
    · obtain ⟨r1, r2⟩ := HG.out hI
      have r1 : -2147483648 ≤ n := r1
      have r2 : n ≤ 2147483647 := r2
      have d1 : decide (-2147483648 ≤ n) = true := by simpa using r1
      have d2 : decide (n ≤ 2147483647) = true := by simpa using r2
      have hI1 : ((bs g).toList == [73]) = true := by rw [hI, ByteArray.toList_eq]; rfl
      clear hI HG
      go_wp2_with fail
      refine (ins.word32_any _ _).mono ?_
      rintro e we ⟨rfl, rfl⟩
      go_wp2
      go_ret
      exact ⟨rfl, HB5.out⟩
    · have hI1 : ((bs g).toList == [73]) = false := by rw [ByteArray.toList_eq]; show (g == [73]) = false; simpa using hI
      clear hI HG
      go_wp2
      go_ret
      exact ⟨rfl, HB5.out⟩
  · have hn0 : n = 0 := HZ.out hz
    rw [show errVal (z, n).1 = .iface 41 (.int .i64 z) from by unfold errVal; rw [if_neg hz]]
    subst hn0
    clear HOK HZ hz
    go_wp2
    go_ret
    exact ⟨rfl, HB4.out⟩

end Go.Proofs.YtogpgfaojmmemaaDoor.hands
