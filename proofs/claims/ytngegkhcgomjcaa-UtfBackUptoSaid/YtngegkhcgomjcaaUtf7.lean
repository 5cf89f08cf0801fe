/- The reference's decoding of units. Condition: not too many bytes. -/
import Derived.Test.YtngegkhcgomjcaaUtf6
import Derived.BigQuiet
namespace Go.Proofs.Ytngegkhcgomjcaa.utfs
open Go.RowKit Go.Proofs.Ytngegkhcgomjcaa.lib Go.Proofs.Ytngegkhcgomjcaa.grow

/-- what UnitsOf hands back -/
def Decoded2 (w : World) (bs : List Int) (e : Ending) (w' : World) : Prop :=
  match decL bs with
  | some us => ∃ v, e = .returned (.tuple #[v, .bool true]) ∧ Out w w' 35 1 v us.length (us.map (.int .u16))
  | none => e = .returned (.tuple #[.slice none 0 0, .bool false]) ∧ Below w.heap.size w w'

theorem ref_none {w wr w' : World} {bs : List Int} {b v : Value} {k : Nat} {us d : List Int} {e : Ending} (h : DecRel w wr bs b v k us) (hd : bs.drop k = d ∧ d ≠ [])
    (hq : (unitOf d).2 = 0) (he : e = .returned (.tuple #[.slice none 0 0, .bool false])) (hb : Below w.heap.size w w') : Decoded2 w bs e w' := by
  have h1 := h.says
  obtain ⟨rfl, hne⟩ := hd
  rw [decL_cons hne, hq] at h1
  simp at h1
  unfold Decoded2
  rw [h1]
  exact ⟨he, hb⟩

theorem ref_says {bs d : List Int} {k m : Nat} {u : Int} (hd : bs.drop k = d ∧ d ≠ []) (hq : unitOf d = (u, m)) : decL (bs.drop k) = if (u, m).2 = 0 then none else (decL ((bs.drop k).drop (u, m).2)).map ((u, m).1 :: ·) := by
  obtain ⟨hd1, hne⟩ := hd
  rw [hd1, decL_cons hne, hq]

set_option maxRecDepth 100000 in
set_option maxHeartbeats 2000000 in
theorem unitsOf_any (a : Option Addr) (c : Nat) (bs : List Int) (w : World) (hv : Sl w (.slice a bs.length c) bs.length 1 (bs.map (.int .u8))) (hz : ∀ z ∈ bs, 0 ≤ z ∧ z ≤ 255) (hn : bs.length ≤ 10000000) :
    Calls Try.prog 12 #[.slice a bs.length c] w (Decoded2 w bs) := by
  have HV := hid hv; have HZ := hid hz; clear hv hz
  go_enter Try.func12, Try.ntmps12
  go_wp2
  go_loopw [0, 4, 5, 6] (fun b v _ _ wr => ∃ k us, Hid (DecRel w wr bs b v k us)) (fun b _ _ _ _ => slen b)
  case atStart => exact ⟨0, [], hid ⟨Nat.zero_le _, by simpa using HV.out, Out.nil _ _ _, by simp, Nat.le_refl _⟩⟩
  case round =>
    obtain ⟨k, us, HR⟩ := hrel
    obtain ⟨a', c', rfl⟩ := HR.out.rest.val
    have hk := HR.out.kle
    have HL : Hid (Sl wr (.slice a' (bs.length - k) c') (bs.length - k) 1 ((bs.drop k).map (.int .u8))) := hid (HR.out.rest.below HR.out.out.below)
    have hcap := HR.out.rest.cap.2
    by_cases hlt : k < bs.length
    · have hpos : (0 : Int) < ((bs.length - k : Nat) : Int) := by omega
      obtain ⟨d, hd⟩ : ∃ d, bs.drop k = d := ⟨_, rfl⟩
      have hdl : d.length = bs.length - k := by rw [← hd]; simp
      have HZD : Hid (∀ z ∈ d, 0 ≤ z ∧ z ≤ 255) := hid (fun z hz => HZ.out z (List.mem_of_mem_drop (i := k) (by rw [hd]; exact hz)))
      rw [hd] at HL
      match d, hdl with
      | [], hdl => simp at hdl; omega
      | b0 :: r, hdl =>
      have HDR : Hid (bs.drop k = b0 :: r ∧ b0 :: r ≠ []) := hid ⟨hd, by simp⟩
      clear hd
      obtain ⟨p0, q0⟩ := HZD.out b0 (by simp)
      obtain ⟨b, off, rfl, hc0⟩ := HL.out.ints (k := 0) (by simp)
      simp only [List.getElem_cons_zero, Nat.add_zero] at hc0
      have hdl' : r.length + 1 = bs.length - k := by simpa using hdl
      clear hdl
      by_cases h192 : b0 < 192
      · have h192' : b0 < 224 := by omega
        have hle1 : (1 : Int) ≤ ((bs.length - k : Nat) : Int) := by omega
        have hlc1 : (1 : Int) ≤ (c' : Int) := by omega
        have HDL := hid hdl'; clear hdl'
        have HU0 : Hid (0 ≤ b0 ∧ b0 ≤ 65535) := hid (by omega)
        have HTR : Hid (∀ z ∈ [b0], 0 ≤ z ∧ z ≤ 255) := hid (fun z hz => HZD.out z (List.mem_append_left r hz))
        have HREF := hid (ref_one (r := r) p0 h192)
        obtain ⟨B, hB⟩ : ∃ B, ((strOfNums (e1 (b0))).toList == (strOfNums ([b0])).toList) = B := ⟨_, rfl⟩
        have HBT : Hid (B = true → e1 (b0) = [b0]) := hid fun h => strOfNums_inj (e1_range HU0.out) HTR.out (str_eq_of (hB.trans h))
        have HBF : Hid (B = false → ¬ e1 (b0) = [b0]) := hid fun h heq => by have h2 := (str_eqb (congrArg strOfNums heq)).symm.trans (hB.trans h); cases h2

        go_wp2_with fail
        have HDN : Hid (Below wr.heap.size wr wr) := hid (Below.refl _ _)
        have HT0 : Hid (Sl wr (.slice (some ⟨b, off, none⟩) 1 c') 1 1 (([b0]).map (.int .u8))) := hid (by have := HL.out.take 1 (by omega); simpa using this)
        have HT := hid (HT0.out.below HDN.out); clear HT0
        clear hc0
        refine wp_region_ext [(2, sl8 (e1 (b0))), (6, fun v _ => v = .bool B)] ⟨sl8_stays _, (fun _ _ _ _ h => h), trivial⟩ (by kernel_rfl) (by kernel_rfl) ?_
        refine wpG_calc 1 rfl rfl rfl (fun u => by go_simp; rfl) ?_
        simp only [Act.put, List.setIfInBounds_toArray, List.set_cons_zero, List.set_cons_succ]
        refine wpG_calc 2 rfl rfl rfl (fun u => by go_simp; rw [wraps_u16 (b0) (by omega) (by omega)]) ?_
        simp only [Act.put, List.setIfInBounds_toArray, List.set_cons_zero, List.set_cons_succ]
        refine wpG_rel 3 rfl rfl rfl ?_ ?_
        · intro u hu hh
          go_simp
          refine (units_any (b0) u HU0.out.1 HU0.out.2).mono ?_
          rintro e w5 ⟨v', rfl, ho⟩
          exact ⟨_, rfl, ho.sl, ho.below⟩
        intro vp ⟨up, _, hrp⟩
        obtain ⟨avp, cvp, rfl⟩ := hrp.val
        clear hrp
        simp only [Act.put, List.setIfInBounds_toArray, List.set_cons_zero, List.set_cons_succ]
        refine wpG_calc 4 rfl rfl rfl (fun u => by go_simp; rfl) ?_
        simp only [Act.put, List.setIfInBounds_toArray, List.set_cons_zero, List.set_cons_succ]
        refine wpG_calc 5 rfl rfl rfl (fun u => by go_simp; rfl) ?_
        simp only [Act.put, List.setIfInBounds_toArray, List.set_cons_zero, List.set_cons_succ]
        refine wpG_calc 6 rfl rfl rfl (fun u => by go_simp; rfl) ?_
        simp only [Act.put, List.setIfInBounds_toArray, List.set_cons_zero, List.set_cons_succ]
        refine wpG_rel 7 rfl rfl rfl ?_ ?_
        · intro u hu hh
          go_simp
          refine (same_any _ _ _ _ (e1 (b0)) ([b0]) u (hh 2 rfl) (HT.out.below hu)).mono ?_
          rintro e w5 ⟨rfl, rfl⟩
          exact ⟨_, rfl, by rw [hB], Below.refl _ _⟩
        intro vq ⟨uq, _, hrq⟩
        subst hrq
        simp only [Act.put, List.setIfInBounds_toArray, List.set_cons_zero, List.set_cons_succ]
        refine wpG_calc 8 rfl rfl rfl (fun u => by go_simp; rfl) ?_
        simp only [Act.put, List.setIfInBounds_toArray, List.set_cons_zero, List.set_cons_succ]
        refine wpG_nil fun w' hb' hF => ?_
        clear hF HT hB
        have hb' := HDN.out.trans (hb'.mono HDN.out.size)
        have HW5 : Hid (Below wr.heap.size wr w') := hid hb'
        have HO5 := hid (HR.out.out.later hb')
        clear hb'
        cases B with
        | false =>
          have HQ : Hid (unitOf ([b0] ++ r) = (0, 0)) := hid (HREF.out.trans (if_neg (HBF.out rfl)))
          go_wp2
          go_ret2
          refine ref_none HR.out HDR.out (congrArg Prod.snd HQ.out) rfl ?_
          exact HR.out.out.below.trans (HW5.out.mono HR.out.out.below.size)
        | true =>
          have HQ : Hid (unitOf ([b0] ++ r) = (b0, 1)) := hid (HREF.out.trans (if_pos (HBT.out rfl)))
          have hus := HR.out.few
          have hml : (1 : Int) ≤ ((bs.length - k : Nat) : Int) := by omega
          by_cases hc : c' = 1
          all_goals
            go_wp2_with (at_builtin; refine wpList_append_lit w _ _ rfl _ _ 22 rfl 35 (.int .u16 0) 1 2 1 Try.underlying22 info35' rfl (by decide) _ _ _ HO5.out rfl rfl rfl (by intro x hx; simp at hx; subst hx; rfl) (by omega) (by omega) (fun v' w'' ho hg => ?_))
            have ho' : Out w w'' 35 1 v' (us.length + 1) (us.map (.int .u16) ++ [.int .u16 (b0)]) := by first | exact ho | (have h := ho; rw [wraps_u16 (b0) (by omega) (by omega)] at h; exact h)
            have hs := dec_step HR.out (ref_says HDR.out HQ.out) (by decide) (by omega) ho'
            clear ho ho'
            go_roundw
          case rel =>
            rw [if_pos hc, hc] at hs
            exact ⟨k + 1, us ++ [b0], hid hs⟩
          case measure => show bs.length - k - 1 < bs.length - k; omega
          case rel =>
            rw [if_neg hc] at hs
            exact ⟨k + 1, us ++ [b0], hid hs⟩
          case measure => show bs.length - k - 1 < bs.length - k; omega

      · have h192' : 192 ≤ b0 := by omega
        by_cases h224 : b0 < 224
        · by_cases hl2 : bs.length - k < 2
          · have hl2' : ((bs.length - k : Nat) : Int) < 2 := by omega
            have hsh : (unitOf (b0 :: r)).2 = 0 := ref_short HZD.out (by simp) (by simp only [List.getD_cons_zero, rN]; rw [if_neg (by omega), if_pos h192']; simp; omega)
            have HSH := hid hsh; have HDL := hid hdl'; clear hsh hdl'
            go_wp2
            go_ret2
            exact ref_none HR.out HDR.out HSH.out rfl HR.out.out.below
          · have hle1 : (2 : Int) ≤ ((bs.length - k : Nat) : Int) := by omega
            have hlc1 : (2 : Int) ≤ (c' : Int) := by omega
            match r, hdl' with
            | [], hdl' => simp at hdl'; omega
            | b1 :: r, hdl' =>
            obtain ⟨p1, q1⟩ := HZD.out b1 (by simp)
            obtain ⟨_, _, he, hc1⟩ := HL.out.ints (k := 1) (by simp)
            cases he
            simp only [List.getElem_cons_zero, List.getElem_cons_succ] at hc1
            have HDL := hid hdl'; clear hdl'
            have HU0 : Hid (0 ≤ b0 % 32 * 64 + b1 % 64 ∧ b0 % 32 * 64 + b1 % 64 ≤ 65535) := hid (by omega)
            have HTR : Hid (∀ z ∈ [b0, b1], 0 ≤ z ∧ z ≤ 255) := hid (fun z hz => HZD.out z (List.mem_append_left r hz))
            have HREF := hid (ref_two (b1 := b1) (r := r) h192' h224)
            obtain ⟨B, hB⟩ : ∃ B, ((strOfNums (e1 (b0 % 32 * 64 + b1 % 64))).toList == (strOfNums ([b0, b1])).toList) = B := ⟨_, rfl⟩
            have HBT : Hid (B = true → e1 (b0 % 32 * 64 + b1 % 64) = [b0, b1]) := hid fun h => strOfNums_inj (e1_range HU0.out) HTR.out (str_eq_of (hB.trans h))
            have HBF : Hid (B = false → ¬ e1 (b0 % 32 * 64 + b1 % 64) = [b0, b1]) := hid fun h heq => by have h2 := (str_eqb (congrArg strOfNums heq)).symm.trans (hB.trans h); cases h2

            go_wp2_with fail
            go_quiet (fail)
            go_wp2_with fail
            have HDN : Hid (Below wr.heap.size wr (wr.drewN nq)) := hid (below_drewN (Below.refl _ _) _)
            generalize wr.drewN nq = wq at HDN ⊢
            have HT0 : Hid (Sl wr (.slice (some ⟨b, off, none⟩) 2 c') 2 1 (([b0, b1]).map (.int .u8))) := hid (by have := HL.out.take 2 (by omega); simpa using this)
            have HT := hid (HT0.out.below HDN.out); clear HT0
            clear hc0 hc1
            refine wp_region_ext [(2, sl8 (e1 (b0 % 32 * 64 + b1 % 64))), (6, fun v _ => v = .bool B)] ⟨sl8_stays _, (fun _ _ _ _ h => h), trivial⟩ (by kernel_rfl) (by kernel_rfl) ?_
            refine wpG_calc 1 rfl rfl rfl (fun u => by go_simp; rfl) ?_
            simp only [Act.put, List.setIfInBounds_toArray, List.set_cons_zero, List.set_cons_succ]
            refine wpG_calc 2 rfl rfl rfl (fun u => by go_simp; rw [wraps_u16 (b0 % 32 * 64 + b1 % 64) (by omega) (by omega)]) ?_
            simp only [Act.put, List.setIfInBounds_toArray, List.set_cons_zero, List.set_cons_succ]
            refine wpG_rel 3 rfl rfl rfl ?_ ?_
            · intro u hu hh
              go_simp
              refine (units_any (b0 % 32 * 64 + b1 % 64) u HU0.out.1 HU0.out.2).mono ?_
              rintro e w5 ⟨v', rfl, ho⟩
              exact ⟨_, rfl, ho.sl, ho.below⟩
            intro vp ⟨up, _, hrp⟩
            obtain ⟨avp, cvp, rfl⟩ := hrp.val
            clear hrp
            simp only [Act.put, List.setIfInBounds_toArray, List.set_cons_zero, List.set_cons_succ]
            refine wpG_calc 4 rfl rfl rfl (fun u => by go_simp; rfl) ?_
            simp only [Act.put, List.setIfInBounds_toArray, List.set_cons_zero, List.set_cons_succ]
            refine wpG_calc 5 rfl rfl rfl (fun u => by go_simp; rfl) ?_
            simp only [Act.put, List.setIfInBounds_toArray, List.set_cons_zero, List.set_cons_succ]
            refine wpG_calc 6 rfl rfl rfl (fun u => by go_simp; rfl) ?_
            simp only [Act.put, List.setIfInBounds_toArray, List.set_cons_zero, List.set_cons_succ]
            refine wpG_rel 7 rfl rfl rfl ?_ ?_
            · intro u hu hh
              go_simp
              refine (same_any _ _ _ _ (e1 (b0 % 32 * 64 + b1 % 64)) ([b0, b1]) u (hh 2 rfl) (HT.out.below hu)).mono ?_
              rintro e w5 ⟨rfl, rfl⟩
              exact ⟨_, rfl, by rw [hB], Below.refl _ _⟩
            intro vq ⟨uq, _, hrq⟩
            subst hrq
            simp only [Act.put, List.setIfInBounds_toArray, List.set_cons_zero, List.set_cons_succ]
            refine wpG_calc 8 rfl rfl rfl (fun u => by go_simp; rfl) ?_
            simp only [Act.put, List.setIfInBounds_toArray, List.set_cons_zero, List.set_cons_succ]
            refine wpG_nil fun w' hb' hF => ?_
            clear hF HT hB
            have hb' := HDN.out.trans (hb'.mono HDN.out.size)
            have HW5 : Hid (Below wr.heap.size wr w') := hid hb'
            have HO5 := hid (HR.out.out.later hb')
            clear hb'
            cases B with
            | false =>
              have HQ : Hid (unitOf ([b0, b1] ++ r) = (0, 0)) := hid (HREF.out.trans (if_neg (HBF.out rfl)))
              go_wp2
              go_ret2
              refine ref_none HR.out HDR.out (congrArg Prod.snd HQ.out) rfl ?_
              exact HR.out.out.below.trans (HW5.out.mono HR.out.out.below.size)
            | true =>
              have HQ : Hid (unitOf ([b0, b1] ++ r) = (b0 % 32 * 64 + b1 % 64, 2)) := hid (HREF.out.trans (if_pos (HBT.out rfl)))
              have hus := HR.out.few
              have hml : (2 : Int) ≤ ((bs.length - k : Nat) : Int) := by omega
              by_cases hc : c' = 2
              all_goals
                go_wp2_with (at_builtin; refine wpList_append_lit w _ _ rfl _ _ 22 rfl 35 (.int .u16 0) 1 2 1 Try.underlying22 info35' rfl (by decide) _ _ _ HO5.out rfl rfl rfl (by intro x hx; simp at hx; subst hx; rfl) (by omega) (by omega) (fun v' w'' ho hg => ?_))
                have ho' : Out w w'' 35 1 v' (us.length + 1) (us.map (.int .u16) ++ [.int .u16 (b0 % 32 * 64 + b1 % 64)]) := by first | exact ho | (have h := ho; rw [wraps_u16 (b0 % 32 * 64 + b1 % 64) (by omega) (by omega)] at h; exact h)
                have hs := dec_step HR.out (ref_says HDR.out HQ.out) (by decide) (by omega) ho'
                clear ho ho'
                go_roundw
              case rel =>
                rw [if_pos hc, hc] at hs
                exact ⟨k + 2, us ++ [b0 % 32 * 64 + b1 % 64], hid hs⟩
              case measure => show bs.length - k - 2 < bs.length - k; omega
              case rel =>
                rw [if_neg hc] at hs
                exact ⟨k + 2, us ++ [b0 % 32 * 64 + b1 % 64], hid hs⟩
              case measure => show bs.length - k - 2 < bs.length - k; omega

        · have h224' : 224 ≤ b0 := by omega
          by_cases hl2 : bs.length - k < 3
          · have hl2' : ((bs.length - k : Nat) : Int) < 3 := by omega
            have hsh : (unitOf (b0 :: r)).2 = 0 := ref_short HZD.out (by simp) (by simp only [List.getD_cons_zero, rN]; rw [if_pos h224']; simp; omega)
            have HSH := hid hsh; have HDL := hid hdl'; clear hsh hdl'
            go_wp2
            go_ret2
            exact ref_none HR.out HDR.out HSH.out rfl HR.out.out.below
          · have hle1 : (3 : Int) ≤ ((bs.length - k : Nat) : Int) := by omega
            have hlc1 : (3 : Int) ≤ (c' : Int) := by omega
            match r, hdl' with
            | [], hdl' => simp at hdl'; omega
            | [b1], hdl' => simp at hdl'; omega
            | b1 :: b2 :: r, hdl' =>
            obtain ⟨p1, q1⟩ := HZD.out b1 (by simp)
            obtain ⟨p2, q2⟩ := HZD.out b2 (by simp)
            obtain ⟨_, _, he, hc1⟩ := HL.out.ints (k := 1) (by simp)
            cases he
            obtain ⟨_, _, he, hc2⟩ := HL.out.ints (k := 2) (by simp)
            cases he
            simp only [List.getElem_cons_zero, List.getElem_cons_succ] at hc1 hc2
            have HDL := hid hdl'; clear hdl'
            have HU0 : Hid (0 ≤ b0 % 16 * 4096 + b1 % 64 * 64 + b2 % 64 ∧ b0 % 16 * 4096 + b1 % 64 * 64 + b2 % 64 ≤ 65535) := hid (by omega)
            have HTR : Hid (∀ z ∈ [b0, b1, b2], 0 ≤ z ∧ z ≤ 255) := hid (fun z hz => HZD.out z (List.mem_append_left r hz))
            have HREF := hid (ref_three (b1 := b1) (b2 := b2) (r := r) h224' q0)
            obtain ⟨B, hB⟩ : ∃ B, ((strOfNums (e1 (b0 % 16 * 4096 + b1 % 64 * 64 + b2 % 64))).toList == (strOfNums ([b0, b1, b2])).toList) = B := ⟨_, rfl⟩
            have HBT : Hid (B = true → e1 (b0 % 16 * 4096 + b1 % 64 * 64 + b2 % 64) = [b0, b1, b2]) := hid fun h => strOfNums_inj (e1_range HU0.out) HTR.out (str_eq_of (hB.trans h))
            have HBF : Hid (B = false → ¬ e1 (b0 % 16 * 4096 + b1 % 64 * 64 + b2 % 64) = [b0, b1, b2]) := hid fun h heq => by have h2 := (str_eqb (congrArg strOfNums heq)).symm.trans (hB.trans h); cases h2

            go_wp2_with fail
            go_quiet (fail)
            go_wp2_with fail
            have HDN : Hid (Below wr.heap.size wr (wr.drewN nq)) := hid (below_drewN (Below.refl _ _) _)
            generalize wr.drewN nq = wq at HDN ⊢
            have HT0 : Hid (Sl wr (.slice (some ⟨b, off, none⟩) 3 c') 3 1 (([b0, b1, b2]).map (.int .u8))) := hid (by have := HL.out.take 3 (by omega); simpa using this)
            have HT := hid (HT0.out.below HDN.out); clear HT0
            clear hc0 hc1 hc2
            refine wp_region_ext [(2, sl8 (e1 (b0 % 16 * 4096 + b1 % 64 * 64 + b2 % 64))), (6, fun v _ => v = .bool B)] ⟨sl8_stays _, (fun _ _ _ _ h => h), trivial⟩ (by kernel_rfl) (by kernel_rfl) ?_
            refine wpG_calc 1 rfl rfl rfl (fun u => by go_simp; rfl) ?_
            simp only [Act.put, List.setIfInBounds_toArray, List.set_cons_zero, List.set_cons_succ]
            refine wpG_calc 2 rfl rfl rfl (fun u => by go_simp; rw [wraps_u16 (b0 % 16 * 4096 + b1 % 64 * 64 + b2 % 64) (by omega) (by omega)]) ?_
            simp only [Act.put, List.setIfInBounds_toArray, List.set_cons_zero, List.set_cons_succ]
            refine wpG_rel 3 rfl rfl rfl ?_ ?_
            · intro u hu hh
              go_simp
              refine (units_any (b0 % 16 * 4096 + b1 % 64 * 64 + b2 % 64) u HU0.out.1 HU0.out.2).mono ?_
              rintro e w5 ⟨v', rfl, ho⟩
              exact ⟨_, rfl, ho.sl, ho.below⟩
            intro vp ⟨up, _, hrp⟩
            obtain ⟨avp, cvp, rfl⟩ := hrp.val
            clear hrp
            simp only [Act.put, List.setIfInBounds_toArray, List.set_cons_zero, List.set_cons_succ]
            refine wpG_calc 4 rfl rfl rfl (fun u => by go_simp; rfl) ?_
            simp only [Act.put, List.setIfInBounds_toArray, List.set_cons_zero, List.set_cons_succ]
            refine wpG_calc 5 rfl rfl rfl (fun u => by go_simp; rfl) ?_
            simp only [Act.put, List.setIfInBounds_toArray, List.set_cons_zero, List.set_cons_succ]
            refine wpG_calc 6 rfl rfl rfl (fun u => by go_simp; rfl) ?_
            simp only [Act.put, List.setIfInBounds_toArray, List.set_cons_zero, List.set_cons_succ]
            refine wpG_rel 7 rfl rfl rfl ?_ ?_
            · intro u hu hh
              go_simp
              refine (same_any _ _ _ _ (e1 (b0 % 16 * 4096 + b1 % 64 * 64 + b2 % 64)) ([b0, b1, b2]) u (hh 2 rfl) (HT.out.below hu)).mono ?_
              rintro e w5 ⟨rfl, rfl⟩
              exact ⟨_, rfl, by rw [hB], Below.refl _ _⟩
            intro vq ⟨uq, _, hrq⟩
            subst hrq
            simp only [Act.put, List.setIfInBounds_toArray, List.set_cons_zero, List.set_cons_succ]
            refine wpG_calc 8 rfl rfl rfl (fun u => by go_simp; rfl) ?_
            simp only [Act.put, List.setIfInBounds_toArray, List.set_cons_zero, List.set_cons_succ]
            refine wpG_nil fun w' hb' hF => ?_
            clear hF HT hB
            have hb' := HDN.out.trans (hb'.mono HDN.out.size)
            have HW5 : Hid (Below wr.heap.size wr w') := hid hb'
            have HO5 := hid (HR.out.out.later hb')
            clear hb'
            cases B with
            | false =>
              have HQ : Hid (unitOf ([b0, b1, b2] ++ r) = (0, 0)) := hid (HREF.out.trans (if_neg (HBF.out rfl)))
              go_wp2
              go_ret2
              refine ref_none HR.out HDR.out (congrArg Prod.snd HQ.out) rfl ?_
              exact HR.out.out.below.trans (HW5.out.mono HR.out.out.below.size)
            | true =>
              have HQ : Hid (unitOf ([b0, b1, b2] ++ r) = (b0 % 16 * 4096 + b1 % 64 * 64 + b2 % 64, 3)) := hid (HREF.out.trans (if_pos (HBT.out rfl)))
              have hus := HR.out.few
              have hml : (3 : Int) ≤ ((bs.length - k : Nat) : Int) := by omega
              by_cases hc : c' = 3
              all_goals
                go_wp2_with (at_builtin; refine wpList_append_lit w _ _ rfl _ _ 22 rfl 35 (.int .u16 0) 1 2 1 Try.underlying22 info35' rfl (by decide) _ _ _ HO5.out rfl rfl rfl (by intro x hx; simp at hx; subst hx; rfl) (by omega) (by omega) (fun v' w'' ho hg => ?_))
                have ho' : Out w w'' 35 1 v' (us.length + 1) (us.map (.int .u16) ++ [.int .u16 (b0 % 16 * 4096 + b1 % 64 * 64 + b2 % 64)]) := by first | exact ho | (have h := ho; rw [wraps_u16 (b0 % 16 * 4096 + b1 % 64 * 64 + b2 % 64) (by omega) (by omega)] at h; exact h)
                have hs := dec_step HR.out (ref_says HDR.out HQ.out) (by decide) (by omega) ho'
                clear ho ho'
                go_roundw
              case rel =>
                rw [if_pos hc, hc] at hs
                exact ⟨k + 3, us ++ [b0 % 16 * 4096 + b1 % 64 * 64 + b2 % 64], hid hs⟩
              case measure => show bs.length - k - 3 < bs.length - k; omega
              case rel =>
                rw [if_neg hc] at hs
                exact ⟨k + 3, us ++ [b0 % 16 * 4096 + b1 % 64 * 64 + b2 % 64], hid hs⟩
              case measure => show bs.length - k - 3 < bs.length - k; omega

    · have hpos : bs.length - k = 0 := by omega
      go_wp2_with fail
      go_ret2
      have : bs.drop k = [] := List.drop_eq_nil_of_le (by omega)
      have hd := HR.out.says
      rw [this, decL_nil] at hd
      simp at hd
      unfold Decoded2
      rw [hd]
      exact ⟨_, rfl, HR.out.out⟩

end Go.Proofs.Ytngegkhcgomjcaa.utfs
