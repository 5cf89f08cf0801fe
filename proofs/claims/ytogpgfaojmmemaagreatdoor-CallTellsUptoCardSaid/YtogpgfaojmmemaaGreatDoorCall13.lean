/- Handles called: CallTells' walk. Conditions: the handle is not too great, its texts and the args are not long; numbers are of 64 bits. -/
import Derived.Test.YtogpgfaojmmemaaGreatDoorCall9
import Derived.Test.YtogpgfaojmmemaaGreatDoorTold1
import Derived.Test.YtogpgfaojmmemaaGreatDoorHand11
import Derived.Test.YtogpgfaojmmemaaGreatDoorErr
set_option linter.unusedSimpArgs false
set_option linter.unusedVariables false
namespace Go.Proofs.YtogpgfaojmmemaaGreatDoor.hands
open Go.RowKit Go.Proofs.YtogpgfaojmmemaaGreatDoor.lib Go.Proofs.YtogpgfaojmmemaaGreatDoor.errs Go.Proofs.YtogpgfaojmmemaaGreatDoor.descs Go.Proofs.YtogpgfaojmmemaaGreatDoor.mtypes Go.Proofs.YtogpgfaojmmemaaGreatDoor.nums

def Emp (r : Int × List UInt8) : Prop := ¬ r.1 = 0 → r.2 = []
theorem emp_put (M : List UInt8) (n : Int) (t : List UInt8) : Emp (putOf M n t) := by
  unfold Emp putOf
  repeat' split
  all_goals simp
theorem emp_drop (M : List UInt8) (n : Int) : Emp (dropOf M n) := by
  unfold Emp dropOf
  repeat' split
  all_goals simp
theorem emp_change (M : List UInt8) (n : Int) (t : List UInt8) : Emp (changeOf M n t) := by
  unfold Emp changeOf
  repeat' split
  all_goals simp
theorem emp_permute (M A : List UInt8) (zs : List Int) : Emp (permuteOf M A zs) := by
  unfold Emp permuteOf
  repeat' split
  all_goals simp
theorem emp_bind (k a : Int) (r s : List UInt8) : Emp (bindType k a r s) := by
  unfold bindType
  repeat' split
  all_goals first | exact emp_drop _ _ | exact emp_change _ _ _ | (unfold Emp; simp; done)
theorem node_empty {x : Nd} : Emp (typeN x) := by
  unfold typeN nodeType
  split
  · unfold Emp; simp
  split
  · unfold Emp; simp
  unfold oneType
  split
  · unfold Emp leafS
    intro h
    exact if_neg h
  · split
    · unfold Emp; simp
    · split
      · exact emp_put _ _ _
      · exact emp_permute _ _ _
  · split
    · unfold Emp; simp
    · split
      · unfold Emp; simp
      · exact emp_bind _ _ _ _
theorem type_empty {x : Nd} (h : ¬ (typeW x).1 = 0) : (typeW x).2 = [] := by
  unfold typeW at h ⊢
  split
  · rfl
  · rename_i hc
    rw [if_neg hc] at h
    exact node_empty (x := x) h
/-- what the law's loop has found -/
def LRel (ts : List (List UInt8)) (az : List Int) (RB : Bool) (z : Int) (k : Nat) : Prop := (z = 0 ∧ RB = rangeBad (ts.drop k) (az.drop k)) ∨ (z = 2 ∧ RB = true)

set_option maxRecDepth 100000 in
set_option maxHeartbeats 8000000 in
theorem calltells_any (x : Nd) (va : Value) (az : List Int) (w : World) (hx : NAt w x) (hS : ShortN x) (hB : cnt x ≤ 1000000000000) (haz : Sl w va az.length 1 (az.map iv)) (hn : az.length ≤ 1000000000000) (hN : NumN x) (hin : ∀ z ∈ az, InR z) :
    Calls Tryz.prog 3 #[.agg #[.int .i64 x.k, .string x.t, .int .i64 x.a, x.va, x.vs], va] w fun e w' => e = .returned (.bool true) ∧ Below w.heap.size w w' := by
  have HT := hid (fun u (hu : Below w.heap.size w u) => typeOf_any x u (hx.below hu) hS hB)
  have HC := hid (fun u (hu : Below w.heap.size w u) => call_any x va az u (hx.below hu) hS hB (haz.below hu) hn)
  have HAZ := hid haz
  obtain ⟨R, hR⟩ : ∃ R, typeW x = R := ⟨_, rfl⟩
  obtain ⟨RC, hRC⟩ : ∃ RC, callW x az = RC := ⟨_, rfl⟩
  obtain ⟨RT, hRT⟩ : ∃ RT, toldN x az = RT := ⟨_, rfl⟩
  have HTD : Hid (∀ (u : World) (ts : List (List UInt8)) (g : List UInt8), Below w.heap.size w u → R.1 = 0 → methodOf R.2 = some (ts, g) → ts.length = az.length → rangeBad ts az = false → Calls Tryz.prog 10 #[.agg #[.int .i64 x.k, .string x.t, .int .i64 x.a, x.va, x.vs], va] u (ToldBy u RT)) := hid (fun u ts g hu h0 hm hl hb => by
    rw [← hR] at h0 hm
    obtain ⟨_, hty⟩ := typeW_small h0
    rw [hty] at h0 hm
    rw [← hRT]
    exact toldr_any (right_of (cnt x) x ts g (Nat.le_refl _) h0 hm) u va az (hx.below hu) hN (fits_of hl hb hin) (haz.below hu))
  have HWB : Hid (∀ z, R.1 = z → ¬ z = 0 → RC = (z, 0)) := hid (fun z h h0 => by rw [← hRC]; exact call_bad (by rw [hR]; exact h) h0)
  have HWM : Hid (∀ ts g, R.1 = 0 → methodOf R.2 = some (ts, g) → RC = restW ts az RT) := hid (fun ts g h hm => by rw [← hRC, ← hRT]; exact call_rest (by rw [hR]; exact h) (by rw [hR]; exact hm))
  have HRT2 : Hid (R.1 = 0 → ∃ ts g, methodOf R.2 = some (ts, g) ∧ R.2.length ≤ 200) := hid (fun h0 => by
    obtain ⟨ts, g, hm⟩ := (hR ▸ right_typeW x : RightT R) h0
    exact ⟨ts, g, hm, short_of hm⟩)
  have HRE : Hid (¬ R.1 = 0 → R.2 = []) := hid (fun h0 => by rw [← hR] at h0 ⊢; exact type_empty h0)
  obtain ⟨a1, c1, e1⟩ := hx.1.1.val
  obtain ⟨a2, c2, e2⟩ := hx.1.2.val
  obtain ⟨aa, ca, rfl⟩ := haz.val
  obtain ⟨k0, hk⟩ : ∃ q, x.k = q := ⟨_, rfl⟩
  obtain ⟨t, ht⟩ : ∃ q, x.t = q := ⟨_, rfl⟩
  obtain ⟨a, ha⟩ : ∃ q, x.a = q := ⟨_, rfl⟩
  obtain ⟨n1, hn1⟩ : ∃ q, x.ats.length = q := ⟨_, rfl⟩
  obtain ⟨n2, hn2⟩ : ∃ q, (nodes x.subs).length = q := ⟨_, rfl⟩
  rw [hn1] at e1
  rw [hn2] at e2
  simp only [hR, hRC, hk, ht, ha, e1, e2] at HT HC HTD ⊢
  unfold Called at HC
  unfold Go.Proofs.YtogpgfaojmmemaaGreatDoor.mtypes.Said at HT
  clear hk ht ha hn1 hn2 e1 e2 hx hB hS hR haz hRC hN hin hRT
  obtain ⟨X1, hX1⟩ : ∃ X1, w.alloc (.cells #[.int .i64 k0, .string t, .int .i64 a, .slice a1 n1 c1, .slice a2 n2 c2] 25) = X1 := ⟨_, rfl⟩
  have HB1 : Hid (Below w.heap.size w X1) := hid (hX1 ▸ ext_alloc _ _)
  have HLT : Hid (w.heap.size < X1.heap.size) := hid (by rw [← hX1]; simp)
  have HXR : Hid (X1.heap[w.heap.size]? = some (.cells #[.int .i64 k0, .string t, .int .i64 a, .slice a1 n1 c1, .slice a2 n2 c2] 25 (0, 0))) := hid (by rw [← hX1]; exact heap_alloc_new _ _)
  have HX : Hid (∀ u, Below X1.heap.size X1 u → u.cell? ⟨w.heap.size, 0, none⟩ = some (.int .i64 k0) ∧ u.cell? ⟨w.heap.size, 1, none⟩ = some (.string t) ∧ u.cell? ⟨w.heap.size, 2, none⟩ = some (.int .i64 a) ∧ u.cell? ⟨w.heap.size, 3, none⟩ = some (.slice a1 n1 c1) ∧ u.cell? ⟨w.heap.size, 4, none⟩ = some (.slice a2 n2 c2)) := hid (fun u hu => by
    have h := (hu.block _ HLT.out).trans HXR.out
    refine ⟨?_, ?_, ?_, ?_, ?_⟩ <;> (rw [cell_of_row _ _ _ _ _ _ h]; rfl))
  go_enter Tryz.func3, Tryz.ntmps3
  go_wp2_with fail
  refine (summed_any _).mono ?_
  rintro e w2 ⟨rfl, hb2⟩
  have H12 := hid hb2
  have HB2 := hid (HB1.out.trans (hb2.mono HB1.out.size))
  obtain ⟨x0, x1, x2, x3, x4⟩ := HX.out _ hb2
  clear hb2
  go_wp2_with fail
  refine (HT.out _ HB2.out).mono ?_
  rintro e w3 ⟨rfl, hb3⟩
  have H13 := hid (H12.out.trans (hb3.mono H12.out.size))
  have HB3 := hid (HB2.out.trans (hb3.mono HB2.out.size))
  clear hb3 x0 x1 x2 x3 x4
  by_cases hz : R.1 = 0
  · obtain ⟨ts, g, hm, hsz⟩ := HRT2.out hz
    have HWS := hid (HWM.out ts g hz hm)
    have HM := hid hm
    have HS : Hid ((bs R.2).size ≤ 10000000) := hid (by rw [bs_size]; omega)
    have HTL := hid (fun u hu => HTD.out u ts g hu hz hm)
    rw [hz]
    clear HWB HWM HRT2 HRE HTD hm hsz hz
    go_wp2_with fail
    refine (methodOf_any _ _ HS.out).mono ?_
    intro e w4 h4
    obtain ⟨v4, rfl, ho4⟩ : ∃ v, e = .returned (.tuple #[v, .string (bs g), .bool true]) ∧ Out w3 w4 9 1 v ts.length (ts.map sv) := by
      unfold MethodSaid at h4
      rw [show (bs R.2).data.toList = R.2 from rfl, HM.out] at h4
      exact h4
    have H14 := hid (H13.out.trans (ho4.below.mono H13.out.size))
    have HB4 := hid (HB3.out.trans (ho4.below.mono HB3.out.size))
    obtain ⟨x0, x1, x2, x3, x4⟩ := HX.out _ H14.out
    have HTS := hid ho4.sl
    obtain ⟨a4, c4, rfl⟩ := HTS.out.val
    clear h4 ho4
    have HAX := hid (HAZ.out.below HB4.out)
    by_cases hl : ts.length = az.length
    · have HL := hid hl
      have hl0 : ((ts.length : Int) == (az.length : Int)) = true := by simp [hl]
      have hl1 : ((ts.length : Int) != (az.length : Int)) = false := by simp [hl]
      have HTL2 := hid (fun u hu hb => HTL.out u hu hl hb)
      obtain ⟨RB, hRB⟩ : ∃ RB, rangeBad ts az = RB := ⟨_, rfl⟩
      have HRB := hid hRB
      have HRCB := hid (fun hb => HWS.out.trans (rest_bad hl hb))
      have HRCE := hid (fun hb => HWS.out.trans (rest_end hl hb))
      clear hl hRB HTL HWS
      go_wp2_with fail
      go_loopw [7, 11] (fun e i wr => ∃ (z : Int) (j : Nat), j ≤ az.length ∧ e = .int .i64 z ∧ i = .int .i64 j ∧ w4 = wr ∧ Hid (LRel ts az RB z j)) (fun _ i _ => az.length - (intOf i).toNat)
      case atStart => exact ⟨0, 0, Nat.zero_le _, rfl, rfl, rfl, hid (.inl ⟨rfl, HRB.out.symm⟩)⟩
      case round =>
        obtain ⟨z, j, hj, rfl, rfl, rfl, HLR⟩ := hrel
        rcases HLR.out with ⟨rfl, hrj⟩ | ⟨rfl, hbad⟩
        · have HRJ := hid hrj
          clear hrj
          by_cases hlt : j < az.length
          · have hltt : j < ts.length := by rw [HL.out]; exact hlt
            obtain ⟨bx, ox, hax, hcx⟩ := Sl.ints (K := .i64) HAX.out hlt
            obtain ⟨by_, oy, hay, ty, hty, hcy⟩ := Sl.at1 HTS.out hltt
            rw [List.getElem?_map, List.getElem?_eq_getElem hltt] at hty
            obtain rfl : ty = .string (bs ts[j]) := (Option.some.inj hty).symm
            have HST := hid (bad_step hltt hlt)
            subst hax
            subst hay
            have hi : (0 : Int) ≤ (j : Int) := by omega
            have hjl : (j : Int) < (az.length : Int) := by omega
            have hjl2 : (j : Int) < (ts.length : Int) := by omega
            obtain ⟨tt, htt⟩ : ∃ q, ts[j] = q := ⟨_, rfl⟩
            obtain ⟨v, hv⟩ : ∃ q, az[j] = q := ⟨_, rfl⟩
            rw [htt] at hcy
            rw [hv] at hcx
            rw [htt, hv] at HST
            clear hty htt hv hltt
            by_cases hI : tt = [73]
            · have hI1 : ((bs tt).toList == [73]) = true := by rw [hI, ByteArray.toList_eq]; rfl
              by_cases hw : v = wrap32 v
              · have HNX : Hid (RB = rangeBad (ts.drop (j + 1)) (az.drop (j + 1))) := hid (by rw [HRJ.out, HST.out]; simp [hI, ← hw])
                have hw1 : (decide (-2147483648 ≤ v) && decide (v ≤ 2147483647)) = true := by
                  have := wrap_fit hw
                  simp [this.1, this.2]
                clear hI hw
                go_wp2_with fail
                refine (ins.word32_any _ _).mono ?_
                rintro e we ⟨rfl, rfl⟩
                rw [hw1]
                go_wp2
                go_roundw
                case rel => exact ⟨0, j + 1, by omega, rfl, by go_num, trivial, hid (.inl ⟨rfl, HNX.out⟩)⟩
                case measure => simp [intOf]; omega
              · have HBD : Hid (RB = true) := hid (by rw [HRJ.out, HST.out]; simp [hI, hw])
                have hw1 : (decide (-2147483648 ≤ v) && decide (v ≤ 2147483647)) = false := by
                  rw [Bool.eq_false_iff]
                  intro h
                  simp only [Bool.and_eq_true, decide_eq_true_eq] at h
                  exact hw (fit_is h)
                clear hI hw
                go_wp2_with fail
                refine (ins.word32_any _ _).mono ?_
                rintro e we ⟨rfl, rfl⟩
                rw [hw1]
                go_wp2
                go_roundw
                case rel => exact ⟨2, j + 1, by omega, rfl, by go_num, trivial, hid (.inr ⟨rfl, HBD.out⟩)⟩
                case measure => simp [intOf]; omega
            · have HNX : Hid (RB = rangeBad (ts.drop (j + 1)) (az.drop (j + 1))) := hid (by rw [HRJ.out, HST.out]; simp [hI])
              have hI1 : ((bs tt).toList == [73]) = false := by rw [ByteArray.toList_eq]; show (tt == [73]) = false; simpa using hI
              clear hI
              go_wp2
              go_roundw
              case rel => exact ⟨0, j + 1, by omega, rfl, by go_num, trivial, hid (.inl ⟨rfl, HNX.out⟩)⟩
              case measure => simp [intOf]; omega
          · obtain rfl : j = az.length := by omega
            have HBD : Hid (RB = false) := hid (by rw [HRJ.out, bad_end (Nat.le_refl _)])
            have HRE := hid (HRCE.out (HRB.out.trans HBD.out))
            have HTT := hid (fun u hu => HTL2.out u hu (HRB.out.trans HBD.out))
            clear HRCB HRCE HTL2
            go_wp2_with fail
            refine (HTT.out _ HB4.out).mono ?_
            intro e w6 h6
            obtain ⟨n6, b6, rfl, hb6, ht6⟩ := toldBy_cases h6
            have H16 := hid (H14.out.trans (hb6.mono H14.out.size))
            have HBX := hid (HB4.out.trans (hb6.mono HB4.out.size))
            clear h6 hb6 x0 x1 x2 x3 x4
            obtain ⟨x0, x1, x2, x3, x4⟩ := HX.out _ H16.out
            cases b6 with
            | false =>
              have HE : Hid (RC = (3, 0)) := hid (by rw [HRE.out, ht6]; rfl)
              clear ht6
              go_wp2_with fail
              refine (HC.out _ HBX.out).mono ?_
              rintro e w7 ⟨rfl, hb7⟩
              have HB7 := hid (HBX.out.trans (hb7.mono HBX.out.size))
              clear hb7
              rw [HE.out]
              go_wp2_with fail
              refine (error_same 3 _).mono ?_
              rintro e we ⟨rfl, rfl⟩
              go_wp2
              go_ret
              exact ⟨rfl, HB7.out⟩
            | true =>
              have HE : Hid (RC = (0, n6)) := hid (by rw [HRE.out, ht6]; rfl)
              clear ht6
              go_wp2_with fail
              refine (HC.out _ HBX.out).mono ?_
              rintro e w7 ⟨rfl, hb7⟩
              have HB7 := hid (HBX.out.trans (hb7.mono HBX.out.size))
              clear hb7
              rw [HE.out]
              go_wp2_with fail
              refine (error_same 0 _).mono ?_
              rintro e we ⟨rfl, rfl⟩
              go_wp2
              go_ret
              exact ⟨rfl, HB7.out⟩
        · have HE : Hid (RC = (2, 0)) := hid (HRCB.out (HRB.out.trans hbad))
          have HBX := HB4
          clear hbad HRCB HRCE HTL2
          by_cases hlt : (j : Int) < (az.length : Int)
          all_goals
            go_wp2_with fail
            refine (HC.out _ HBX.out).mono ?_
            rintro e w7 ⟨rfl, hb7⟩
            have HB7 := hid (HBX.out.trans (hb7.mono HBX.out.size))
            clear hb7
            rw [HE.out]
            go_wp2_with fail
            refine (error_same 2 _).mono ?_
            rintro e we ⟨rfl, rfl⟩
            go_wp2
            go_ret
            exact ⟨rfl, HB7.out⟩
    · have HE : Hid (RC = (8, 0)) := hid (HWS.out.trans (rest_len hl))
      have hl0 : ((ts.length : Int) == (az.length : Int)) = false := by simp; omega
      have hl1 : ((ts.length : Int) != (az.length : Int)) = true := bne_iff_ne.2 (by omega)
      have HBX := HB4
      clear hl HTL HWS
      go_wp2_with fail
      go_loopw [7, 11] (fun e i wr => e = .int .i64 8 ∧ i = .int .i64 0 ∧ w4 = wr) (fun _ _ _ => 0)
      case atStart => exact ⟨rfl, rfl, rfl⟩
      case round =>
        obtain ⟨rfl, rfl, rfl⟩ := hrel
        by_cases hl3 : (0 : Int) < (az.length : Int)
        all_goals
          go_wp2_with fail
          refine (HC.out _ HBX.out).mono ?_
          rintro e w7 ⟨rfl, hb7⟩
          have HB7 := hid (HBX.out.trans (hb7.mono HBX.out.size))
          clear hb7
          rw [HE.out]
          go_wp2_with fail
          refine (error_same 8 _).mono ?_
          rintro e we ⟨rfl, rfl⟩
          go_wp2
          go_ret
          exact ⟨rfl, HB7.out⟩
  · obtain ⟨z, hz2⟩ : ∃ z, R.1 = z := ⟨_, rfl⟩
    have hS0 := HRE.out hz
    rw [hz2] at hz
    have HW := hid (HWB.out z hz2 hz)
    rw [hz2, hS0]
    have hz0 : (z == 0) = false := by simpa using hz
    have HZ := hid hz
    clear HWB HWM HRT2 HRE HTD hz2 hS0
    go_wp2_with fail
    refine (methodOf_any (bs []) _ (by rw [bs_size]; exact Nat.zero_le _)).mono ?_
    intro e w4 h4
    obtain ⟨rfl, hb4⟩ : e = .returned (.tuple #[.slice none 0 0, .string { data := #[] }, .bool false]) ∧ Below w3.heap.size w3 w4 := h4
    have H14 := hid (H13.out.trans (hb4.mono H13.out.size))
    have HB4 := hid (HB3.out.trans (hb4.mono HB3.out.size))
    obtain ⟨x0, x1, x2, x3, x4⟩ := HX.out _ H14.out
    clear hb4 hz
    go_wp2_with fail
    go_loopw [7, 11] (fun e i wr => e = .int .i64 z ∧ i = .int .i64 0 ∧ w4 = wr) (fun _ _ _ => 0)
    case atStart => exact ⟨rfl, rfl, rfl⟩
    case round =>
      obtain ⟨rfl, rfl, rfl⟩ := hrel
      by_cases hl0 : (0 : Int) < (az.length : Int)
      all_goals
        go_wp2_with fail
        refine (HC.out _ HB4.out).mono ?_
        rintro e w5 ⟨rfl, hb5⟩
        have HB5 := hid (HB4.out.trans (hb5.mono HB4.out.size))
        clear hb5
        rw [HW.out]
        go_wp2_with fail
        refine (error_same z _).mono ?_
        rintro e we ⟨rfl, rfl⟩
        go_wp2
        go_ret
        exact ⟨rfl, HB5.out⟩

end Go.Proofs.YtogpgfaojmmemaaGreatDoor.hands
