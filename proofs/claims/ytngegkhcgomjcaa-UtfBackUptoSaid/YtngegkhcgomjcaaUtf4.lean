/- The unit at the beginning of bytes: what utf.unit computes. Condition: the bytes are not empty. -/
import Derived.Test.YtngegkhcgomjcaaUtf2
import Derived.BigQuiet
namespace Go.Proofs.Ytngegkhcgomjcaa.utfs
open Go.RowKit Go.Proofs.Ytngegkhcgomjcaa.lib Go.Proofs.Ytngegkhcgomjcaa.grow

def uN (b0 : Int) : Nat := if b0 / 32 = 6 then 2 else if b0 / 16 = 14 then 3 else 1
def uV (bs : List Int) : Int :=
  if uN (bs.getD 0 0) = 1 then bs.getD 0 0 else if uN (bs.getD 0 0) = 2 then bs.getD 0 0 % 32 * 64 + bs.getD 1 0 % 64 else (bs.getD 0 0 % 16 * 64 + bs.getD 1 0 % 64) * 64 + bs.getD 2 0 % 64
/-- the unit at the beginning, and how many bytes it takes; 0: there is none -/
def unitOf (bs : List Int) : Int × Nat :=
  if bs.length < uN (bs.getD 0 0) then (0, 0) else if e1 (uV bs) = bs.take (uN (bs.getD 0 0)) then (uV bs, uN (bs.getD 0 0)) else (0, 0)

def Unit (w : World) (bs : List Int) (e : Ending) (w' : World) : Prop := e = .returned (.tuple #[.int .u16 (unitOf bs).1, .int .i64 (unitOf bs).2]) ∧ Below w.heap.size w w'

theorem e1_range {u : Int} (h : 0 ≤ u ∧ u ≤ 65535) : ∀ x ∈ e1 u, 0 ≤ x ∧ x ≤ 255 := by
  unfold e1
  intro x hx
  split at hx
  · simp at hx; omega
  · split at hx <;> simp at hx <;> omega
theorem strOfNums_inj {xs ys : List Int} (hx : ∀ x ∈ xs, 0 ≤ x ∧ x ≤ 255) (hy : ∀ x ∈ ys, 0 ≤ x ∧ x ≤ 255) (h : strOfNums xs = strOfNums ys) : xs = ys := by
  have h1 : (strOfNums xs).data.toList = (strOfNums ys).data.toList := by rw [h]
  rw [strOfNums_data, strOfNums_data] at h1
  have key : ∀ zs : List Int, (∀ x ∈ zs, 0 ≤ x ∧ x ≤ 255) → (zs.map fun n => UInt8.ofNat n.toNat).map (fun b => (b.toNat : Int)) = zs := by
    intro zs hz
    rw [List.map_map]
    conv => rhs; rw [← List.map_id zs]
    refine List.map_congr_left fun x hx => ?_
    have := hz x hx
    simp
    omega
  rw [← key xs hx, ← key ys hy, h1]
theorem u16_and15 {x : Int} (h₀ : 0 ≤ x) (h₁ : x < 65536) : bits .and .u16 x 15 = x % 16 := bits_mask .u16 16 (by decide) wraps_u16 4 (by decide) x h₀ h₁
theorem u16_and31 {x : Int} (h₀ : 0 ≤ x) (h₁ : x < 65536) : bits .and .u16 x 31 = x % 32 := bits_mask .u16 16 (by decide) wraps_u16 5 (by decide) x h₀ h₁
theorem u16_or6 {x y : Int} (h₀ : 0 ≤ x) (h1 : x % 64 = 0) (h₁ : x < 65536) (h2 : 0 ≤ y) (h3 : y < 64) : bits .or .u16 x y = x + y :=
  bits_join .u16 16 (by decide) wraps_u16 6 x y h₀ h1 h₁ h2 h3 (by omega)


set_option maxHeartbeats 1000000 in
theorem unit_3 (a : Option Addr) (c : Nat) (bs : List Int) (w : World) (hv : Sl w (.slice a bs.length c) bs.length 1 (bs.map (.int .u8))) (hz : ∀ z ∈ bs, 0 ≤ z ∧ z ≤ 255) (hn : 3 ≤ bs.length) (h3 : bs.getD 0 0 / 16 = 14) :
    Calls Try.prog 27 #[.slice a bs.length c] w (Unit w bs) := by
  match bs, hn with
  | b0 :: b1 :: b2 :: r, _ =>
  obtain ⟨b, off, rfl, hc0⟩ := hv.ints (k := 0) (by simp)
  obtain ⟨_, _, he, hc1⟩ := hv.ints (k := 1) (by simp)
  cases he
  obtain ⟨_, _, he, hc2⟩ := hv.ints (k := 2) (by simp)
  cases he
  have hcap := hv.cap.2
  simp only [List.getElem_cons_zero, List.getElem_cons_succ, Nat.add_zero, List.length_cons] at hc0 hc1 hc2 hcap
  obtain ⟨p0, q0⟩ := hz b0 (by simp)
  obtain ⟨p1, q1⟩ := hz b1 (by simp)
  obtain ⟨p2, q2⟩ := hz b2 (by simp)
  simp only [List.getD_cons_zero] at h3
  have t6 : (b0 / 32 == 6) = false := by simp; omega
  have t14 : (b0 / 16 == 14) = true := by simpa using h3
  have hc1' : ¬ c = 1 := by omega
  have hc3 : (3 : Int) ≤ (c : Int) := by omega
  have hU0 : 0 ≤ (b0 % 16 * 64 + b1 % 64) * 64 + b2 % 64 ∧ (b0 % 16 * 64 + b1 % 64) * 64 + b2 % 64 ≤ 65535 := by omega
  have hfit : (e1 ((b0 % 16 * 64 + b1 % 64) * 64 + b2 % 64) = [b0, b1, b2] → unitOf (b0 :: b1 :: b2 :: r) = ((b0 % 16 * 64 + b1 % 64) * 64 + b2 % 64, 3)) ∧ (¬ e1 ((b0 % 16 * 64 + b1 % 64) * 64 + b2 % 64) = [b0, b1, b2] → unitOf (b0 :: b1 :: b2 :: r) = (0, 0)) := by
    have n3 : uN b0 = 3 := by unfold uN; rw [if_neg (by omega), if_pos h3]
    refine ⟨fun h => ?_, fun h => ?_⟩ <;> (simp only [unitOf, uV, List.getD_cons_zero, List.getD_cons_succ, n3]; rw [if_neg (by simp)]; simp [h])
  have HZ := hid hz; have HV := hid hv; have HU0 := hid hU0; have HFIT := hid hfit; clear hz hv hU0 hfit
  have HU : Hid (∀ z ∈ [(b0 % 16 * 64 + b1 % 64) * 64 + b2 % 64], 0 ≤ z ∧ z ≤ 65535) := hid (by intro z hz; rw [List.mem_singleton] at hz; subst hz; exact HU0.out)
  have HTR : Hid (∀ z ∈ [b0, b1, b2], 0 ≤ z ∧ z ≤ 255) := hid (fun z hz => HZ.out z (List.mem_append_left r hz))
  have q5 : bits .or .u16 (IntKind.u16.wrap (bits .or .u16 (IntKind.u16.wrap (bits .and .u16 b0 15 * 64)) (b1 % 64) * 64)) (b2 % 64) = (b0 % 16 * 64 + b1 % 64) * 64 + b2 % 64 := by
    rw [u16_and15 p0 (by omega), wraps_u16 (b0 % 16 * 64) (by omega) (by omega), u16_or6 (x := b0 % 16 * 64) (by omega) (by omega) (by omega) (by omega) (by omega),
      wraps_u16 ((b0 % 16 * 64 + b1 % 64) * 64) (by omega) (by omega), u16_or6 (x := (b0 % 16 * 64 + b1 % 64) * 64) (by omega) (by omega) (by omega) (by omega) (by omega)]
  have Q5 := hid q5; clear q5
  go_enter Try.func27, Try.ntmps27
  go_wp2_with fail
  go_quiet (fail)
  go_wp2
  go_rounds 3
  go_wp2_with fail
  rw [Q5.out]
  have HW : Hid (Below w.heap.size w (w.drewN nq)) := hid (below_drewN (Below.refl _ _) _)
  generalize w.drewN nq = w1 at HW ⊢
  clear hc0 hc1 hc2
  have HT1 : Sl w (.slice (some ⟨b, off, none⟩) 3 c) 3 1 (([b0, b1, b2]).map (.int .u8)) := by have := HV.out.take 3 (by simp); simpa using this
  have hbw : Below w.heap.size w w1 := HW.out
  have HT := hid (HT1.below hbw); clear HT1
  have henc : encL [(b0 % 16 * 64 + b1 % 64) * 64 + b2 % 64] = e1 ((b0 % 16 * 64 + b1 % 64) * 64 + b2 % 64) := by simp [encL]
  obtain ⟨B, hB⟩ : ∃ B, ((strOfNums (encL [(b0 % 16 * 64 + b1 % 64) * 64 + b2 % 64])).toList == (strOfNums ([b0, b1, b2])).toList) = B := ⟨_, rfl⟩
  have HBT : Hid (B = true → e1 ((b0 % 16 * 64 + b1 % 64) * 64 + b2 % 64) = [b0, b1, b2]) := hid fun h => strOfNums_inj (e1_range HU0.out) HTR.out (by rw [← henc]; exact str_eq_of (hB.trans h))
  have HBF : Hid (B = false → ¬ e1 ((b0 % 16 * 64 + b1 % 64) * 64 + b2 % 64) = [b0, b1, b2]) := hid fun h => by intro heq; rw [henc, heq] at hB; simp at hB; rw [h] at hB; cases hB
  clear henc
  go_wp2_with fail
  refine wp_region_ext [(1, sl16 [(b0 % 16 * 64 + b1 % 64) * 64 + b2 % 64]), (2, sl8 (encL [(b0 % 16 * 64 + b1 % 64) * 64 + b2 % 64]))] ⟨sl16_stays _, sl8_stays _, trivial⟩ (by kernel_rfl) (by kernel_rfl) ?_
  refine wpG_calc 1 rfl rfl rfl (fun u => by go_simp; rfl) ?_
  simp only [Act.put, List.setIfInBounds_toArray, List.set_cons_zero, List.set_cons_succ]
  refine wpG_rel 2 rfl rfl rfl ?_ ?_
  · intro u hu hh
    go_simp
    exact ⟨Sl.lit u _ _ 1 1 rfl, ext_alloc _ _⟩
  intro vp ⟨up, _, hrp⟩
  obtain ⟨avp, cvp, rfl⟩ := hrp.val
  clear hrp
  simp only [Act.put, List.setIfInBounds_toArray, List.set_cons_zero, List.set_cons_succ]
  refine wpG_rel 3 rfl rfl rfl ?_ ?_
  · intro u hu hh
    go_simp
    refine (encode_sl _ _ [(b0 % 16 * 64 + b1 % 64) * 64 + b2 % 64] u (hh 1 rfl) HU.out (by simp)).mono ?_
    rintro e w5 ⟨v', rfl, ho⟩
    exact ⟨_, rfl, ho.sl, ho.below⟩
  intro vq ⟨uq, _, hrq⟩
  obtain ⟨avq, cvq, rfl⟩ := hrq.val
  clear hrq
  simp only [Act.put, List.setIfInBounds_toArray, List.set_cons_zero, List.set_cons_succ]
  refine wpG_read 4 rfl rfl (.string (strOfNums (encL [(b0 % 16 * 64 + b1 % 64) * 64 + b2 % 64]))) rfl ?_ ?_
  · intro u hu hh
    have hs := run_conv_str (P := Try.prog) Try.underlying24 Try.underlying5 Try.underlying9 (show Sl u _ _ 1 ((encL [(b0 % 16 * 64 + b1 % 64) * 64 + b2 % 64]).map (.int .u8)) from hh 2 rfl)
    go_simp
  simp only [Act.put, List.setIfInBounds_toArray, List.set_cons_zero, List.set_cons_succ]
  refine wpG_calc 5 rfl rfl rfl (fun u => by go_simp; rfl) ?_
  simp only [Act.put, List.setIfInBounds_toArray, List.set_cons_zero, List.set_cons_succ]
  refine wpG_calc 6 rfl rfl rfl (fun u => by go_simp; rfl) ?_
  simp only [Act.put, List.setIfInBounds_toArray, List.set_cons_zero, List.set_cons_succ]
  refine wpG_calc 7 rfl rfl rfl (fun u => by go_simp; rfl) ?_
  simp only [Act.put, List.setIfInBounds_toArray, List.set_cons_zero, List.set_cons_succ]
  refine wpG_read 8 rfl rfl (.string (strOfNums ([b0, b1, b2]))) rfl ?_ ?_
  · intro u hu hh
    have hs := run_conv_str (P := Try.prog) Try.underlying24 Try.underlying5 Try.underlying9 (show Sl u _ _ 1 (([b0, b1, b2]).map (.int .u8)) from HT.out.below hu)
    go_simp
  simp only [Act.put, List.setIfInBounds_toArray, List.set_cons_zero, List.set_cons_succ]
  refine wpG_calc 9 rfl rfl rfl (fun u => by go_simp; rfl) ?_
  simp only [Act.put, List.setIfInBounds_toArray, List.set_cons_zero, List.set_cons_succ]
  refine wpG_nil fun w' hb' hF => ?_
  clear hF HT
  have hbe := hbw.trans (hb'.mono hbw.size)
  have HE := hid hbe; clear hbe hbw hb' hB
  cases B with
  | true =>
    have HUN := hid (HFIT.out.1 (HBT.out rfl))
    go_wp2
    go_ret2
    exact ⟨by rw [HUN.out]; rfl, HE.out⟩
  | false =>
    have HUN := hid (HFIT.out.2 (HBF.out rfl))
    go_wp2
    go_ret2
    exact ⟨by rw [HUN.out]; rfl, HE.out⟩


set_option maxHeartbeats 1000000 in
theorem unit_2 (a : Option Addr) (c : Nat) (bs : List Int) (w : World) (hv : Sl w (.slice a bs.length c) bs.length 1 (bs.map (.int .u8))) (hz : ∀ z ∈ bs, 0 ≤ z ∧ z ≤ 255) (hn : 2 ≤ bs.length) (h3 : bs.getD 0 0 / 32 = 6) :
    Calls Try.prog 27 #[.slice a bs.length c] w (Unit w bs) := by
  match bs, hn with
  | b0 :: b1 :: r, _ =>
  obtain ⟨b, off, rfl, hc0⟩ := hv.ints (k := 0) (by simp)
  obtain ⟨_, _, he, hc1⟩ := hv.ints (k := 1) (by simp)
  cases he
  have hcap := hv.cap.2
  simp only [List.getElem_cons_zero, List.getElem_cons_succ, Nat.add_zero, List.length_cons] at hc0 hc1 hcap
  obtain ⟨p0, q0⟩ := hz b0 (by simp)
  obtain ⟨p1, q1⟩ := hz b1 (by simp)
  simp only [List.getD_cons_zero] at h3
  have t6 : (b0 / 32 == 6) = true := by simpa using h3
  have hc1' : ¬ c = 1 := by omega
  have hc3 : (2 : Int) ≤ (c : Int) := by omega
  have hU0 : 0 ≤ b0 % 32 * 64 + b1 % 64 ∧ b0 % 32 * 64 + b1 % 64 ≤ 65535 := by omega
  have hfit : (e1 (b0 % 32 * 64 + b1 % 64) = [b0, b1] → unitOf (b0 :: b1 :: r) = (b0 % 32 * 64 + b1 % 64, 2)) ∧ (¬ e1 (b0 % 32 * 64 + b1 % 64) = [b0, b1] → unitOf (b0 :: b1 :: r) = (0, 0)) := by
    have n3 : uN b0 = 2 := by unfold uN; rw [if_pos h3]
    refine ⟨fun h => ?_, fun h => ?_⟩ <;> (simp only [unitOf, uV, List.getD_cons_zero, List.getD_cons_succ, n3]; rw [if_neg (by simp)]; simp [h])
  have HZ := hid hz; have HV := hid hv; have HU0 := hid hU0; have HFIT := hid hfit; clear hz hv hU0 hfit
  have HU : Hid (∀ z ∈ [b0 % 32 * 64 + b1 % 64], 0 ≤ z ∧ z ≤ 65535) := hid (by intro z hz; rw [List.mem_singleton] at hz; subst hz; exact HU0.out)
  have HTR : Hid (∀ z ∈ [b0, b1], 0 ≤ z ∧ z ≤ 255) := hid (fun z hz => HZ.out z (List.mem_append_left r hz))
  have q5 : bits .or .u16 (IntKind.u16.wrap (bits .and .u16 b0 31 * 64)) (b1 % 64) = b0 % 32 * 64 + b1 % 64 := by
    rw [u16_and31 p0 (by omega), wraps_u16 (b0 % 32 * 64) (by omega) (by omega), u16_or6 (x := b0 % 32 * 64) (by omega) (by omega) (by omega) (by omega) (by omega)]
  have Q5 := hid q5; clear q5
  go_enter Try.func27, Try.ntmps27
  go_wp2_with fail
  go_quiet (fail)
  go_wp2
  go_rounds 2
  go_wp2_with fail
  rw [Q5.out]
  have HW : Hid (Below w.heap.size w (w.drewN nq)) := hid (below_drewN (Below.refl _ _) _)
  generalize w.drewN nq = w1 at HW ⊢
  clear hc0 hc1
  have HT1 : Sl w (.slice (some ⟨b, off, none⟩) 2 c) 2 1 (([b0, b1]).map (.int .u8)) := by have := HV.out.take 2 (by simp); simpa using this
  have hbw : Below w.heap.size w w1 := HW.out
  have HT := hid (HT1.below hbw); clear HT1
  have henc : encL [b0 % 32 * 64 + b1 % 64] = e1 (b0 % 32 * 64 + b1 % 64) := by simp [encL]
  obtain ⟨B, hB⟩ : ∃ B, ((strOfNums (encL [b0 % 32 * 64 + b1 % 64])).toList == (strOfNums ([b0, b1])).toList) = B := ⟨_, rfl⟩
  have HBT : Hid (B = true → e1 (b0 % 32 * 64 + b1 % 64) = [b0, b1]) := hid fun h => strOfNums_inj (e1_range HU0.out) HTR.out (by rw [← henc]; exact str_eq_of (hB.trans h))
  have HBF : Hid (B = false → ¬ e1 (b0 % 32 * 64 + b1 % 64) = [b0, b1]) := hid fun h => by intro heq; rw [henc, heq] at hB; simp at hB; rw [h] at hB; cases hB
  clear henc
  go_wp2_with fail
  refine wp_region_ext [(1, sl16 [b0 % 32 * 64 + b1 % 64]), (2, sl8 (encL [b0 % 32 * 64 + b1 % 64]))] ⟨sl16_stays _, sl8_stays _, trivial⟩ (by kernel_rfl) (by kernel_rfl) ?_
  refine wpG_calc 1 rfl rfl rfl (fun u => by go_simp; rfl) ?_
  simp only [Act.put, List.setIfInBounds_toArray, List.set_cons_zero, List.set_cons_succ]
  refine wpG_rel 2 rfl rfl rfl ?_ ?_
  · intro u hu hh
    go_simp
    exact ⟨Sl.lit u _ _ 1 1 rfl, ext_alloc _ _⟩
  intro vp ⟨up, _, hrp⟩
  obtain ⟨avp, cvp, rfl⟩ := hrp.val
  clear hrp
  simp only [Act.put, List.setIfInBounds_toArray, List.set_cons_zero, List.set_cons_succ]
  refine wpG_rel 3 rfl rfl rfl ?_ ?_
  · intro u hu hh
    go_simp
    refine (encode_sl _ _ [b0 % 32 * 64 + b1 % 64] u (hh 1 rfl) HU.out (by simp)).mono ?_
    rintro e w5 ⟨v', rfl, ho⟩
    exact ⟨_, rfl, ho.sl, ho.below⟩
  intro vq ⟨uq, _, hrq⟩
  obtain ⟨avq, cvq, rfl⟩ := hrq.val
  clear hrq
  simp only [Act.put, List.setIfInBounds_toArray, List.set_cons_zero, List.set_cons_succ]
  refine wpG_read 4 rfl rfl (.string (strOfNums (encL [b0 % 32 * 64 + b1 % 64]))) rfl ?_ ?_
  · intro u hu hh
    have hs := run_conv_str (P := Try.prog) Try.underlying24 Try.underlying5 Try.underlying9 (show Sl u _ _ 1 ((encL [b0 % 32 * 64 + b1 % 64]).map (.int .u8)) from hh 2 rfl)
    go_simp
  simp only [Act.put, List.setIfInBounds_toArray, List.set_cons_zero, List.set_cons_succ]
  refine wpG_calc 5 rfl rfl rfl (fun u => by go_simp; rfl) ?_
  simp only [Act.put, List.setIfInBounds_toArray, List.set_cons_zero, List.set_cons_succ]
  refine wpG_calc 6 rfl rfl rfl (fun u => by go_simp; rfl) ?_
  simp only [Act.put, List.setIfInBounds_toArray, List.set_cons_zero, List.set_cons_succ]
  refine wpG_calc 7 rfl rfl rfl (fun u => by go_simp; rfl) ?_
  simp only [Act.put, List.setIfInBounds_toArray, List.set_cons_zero, List.set_cons_succ]
  refine wpG_read 8 rfl rfl (.string (strOfNums ([b0, b1]))) rfl ?_ ?_
  · intro u hu hh
    have hs := run_conv_str (P := Try.prog) Try.underlying24 Try.underlying5 Try.underlying9 (show Sl u _ _ 1 (([b0, b1]).map (.int .u8)) from HT.out.below hu)
    go_simp
  simp only [Act.put, List.setIfInBounds_toArray, List.set_cons_zero, List.set_cons_succ]
  refine wpG_calc 9 rfl rfl rfl (fun u => by go_simp; rfl) ?_
  simp only [Act.put, List.setIfInBounds_toArray, List.set_cons_zero, List.set_cons_succ]
  refine wpG_nil fun w' hb' hF => ?_
  clear hF HT
  have hbe := hbw.trans (hb'.mono hbw.size)
  have HE := hid hbe; clear hbe hbw hb' hB
  cases B with
  | true =>
    have HUN := hid (HFIT.out.1 (HBT.out rfl))
    go_wp2
    go_ret2
    exact ⟨by rw [HUN.out]; rfl, HE.out⟩
  | false =>
    have HUN := hid (HFIT.out.2 (HBF.out rfl))
    go_wp2
    go_ret2
    exact ⟨by rw [HUN.out]; rfl, HE.out⟩


set_option maxHeartbeats 1000000 in
theorem unit_1 (a : Option Addr) (c : Nat) (bs : List Int) (w : World) (hv : Sl w (.slice a bs.length c) bs.length 1 (bs.map (.int .u8))) (hz : ∀ z ∈ bs, 0 ≤ z ∧ z ≤ 255) (hn : 1 ≤ bs.length) (h3 : ¬ bs.getD 0 0 / 32 = 6) (h4 : ¬ bs.getD 0 0 / 16 = 14) :
    Calls Try.prog 27 #[.slice a bs.length c] w (Unit w bs) := by
  match bs, hn with
  | b0 :: r, _ =>
  obtain ⟨b, off, rfl, hc0⟩ := hv.ints (k := 0) (by simp)
  have hcap := hv.cap.2
  simp only [List.getElem_cons_zero, Nat.add_zero, List.length_cons] at hc0 hcap
  obtain ⟨p0, q0⟩ := hz b0 (by simp)
  simp only [List.getD_cons_zero] at h3 h4
  have t6 : (b0 / 32 == 6) = false := by simpa using h3
  have t14 : (b0 / 16 == 14) = false := by simpa using h4
  have hc3 : (1 : Int) ≤ (c : Int) := by omega
  have hU0 : 0 ≤ b0 ∧ b0 ≤ 65535 := by omega
  have hfit : (e1 (b0) = [b0] → unitOf (b0 :: r) = (b0, 1)) ∧ (¬ e1 (b0) = [b0] → unitOf (b0 :: r) = (0, 0)) := by
    have n3 : uN b0 = 1 := by unfold uN; rw [if_neg h3, if_neg h4]
    refine ⟨fun h => ?_, fun h => ?_⟩ <;> (simp only [unitOf, uV, List.getD_cons_zero, List.getD_cons_succ, n3]; rw [if_neg (by simp)]; simp [h])
  have HZ := hid hz; have HV := hid hv; have HU0 := hid hU0; have HFIT := hid hfit; clear hz hv hU0 hfit
  have HU : Hid (∀ z ∈ [b0], 0 ≤ z ∧ z ≤ 65535) := hid (by intro z hz; rw [List.mem_singleton] at hz; subst hz; exact HU0.out)
  have HTR : Hid (∀ z ∈ [b0], 0 ≤ z ∧ z ≤ 255) := hid (fun z hz => HZ.out z (List.mem_append_left r hz))
  by_cases hc1 : c = 1
  · subst hc1
    go_enter Try.func27, Try.ntmps27
    go_wp2
    go_rounds 1
    go_wp2_with fail
    have HW : Hid (Below w.heap.size w w) := hid (Below.refl _ _)
    have HT1 : Sl w (.slice (some ⟨b, off, none⟩) 1 1) 1 1 (([b0]).map (.int .u8)) := by have := HV.out.take 1 (by simp); simpa using this
    have hbw : Below w.heap.size w w := HW.out
    have HT := hid (HT1.below hbw); clear HT1
    have henc : encL [b0] = e1 (b0) := by simp [encL]
    obtain ⟨B, hB⟩ : ∃ B, ((strOfNums (encL [b0])).toList == (strOfNums ([b0])).toList) = B := ⟨_, rfl⟩
    have HBT : Hid (B = true → e1 (b0) = [b0]) := hid fun h => strOfNums_inj (e1_range HU0.out) HTR.out (by rw [← henc]; exact str_eq_of (hB.trans h))
    have HBF : Hid (B = false → ¬ e1 (b0) = [b0]) := hid fun h => by intro heq; rw [henc, heq] at hB; simp at hB; rw [h] at hB; cases hB
    clear henc
    go_wp2_with fail
    refine wp_region_ext [(1, sl16 [b0]), (2, sl8 (encL [b0]))] ⟨sl16_stays _, sl8_stays _, trivial⟩ (by kernel_rfl) (by kernel_rfl) ?_
    refine wpG_calc 1 rfl rfl rfl (fun u => by go_simp; rfl) ?_
    simp only [Act.put, List.setIfInBounds_toArray, List.set_cons_zero, List.set_cons_succ]
    refine wpG_rel 2 rfl rfl rfl ?_ ?_
    · intro u hu hh
      go_simp
      exact ⟨Sl.lit u _ _ 1 1 rfl, ext_alloc _ _⟩
    intro vp ⟨up, _, hrp⟩
    obtain ⟨avp, cvp, rfl⟩ := hrp.val
    clear hrp
    simp only [Act.put, List.setIfInBounds_toArray, List.set_cons_zero, List.set_cons_succ]
    refine wpG_rel 3 rfl rfl rfl ?_ ?_
    · intro u hu hh
      go_simp
      refine (encode_sl _ _ [b0] u (hh 1 rfl) HU.out (by simp)).mono ?_
      rintro e w5 ⟨v', rfl, ho⟩
      exact ⟨_, rfl, ho.sl, ho.below⟩
    intro vq ⟨uq, _, hrq⟩
    obtain ⟨avq, cvq, rfl⟩ := hrq.val
    clear hrq
    simp only [Act.put, List.setIfInBounds_toArray, List.set_cons_zero, List.set_cons_succ]
    refine wpG_read 4 rfl rfl (.string (strOfNums (encL [b0]))) rfl ?_ ?_
    · intro u hu hh
      have hs := run_conv_str (P := Try.prog) Try.underlying24 Try.underlying5 Try.underlying9 (show Sl u _ _ 1 ((encL [b0]).map (.int .u8)) from hh 2 rfl)
      go_simp
    simp only [Act.put, List.setIfInBounds_toArray, List.set_cons_zero, List.set_cons_succ]
    refine wpG_calc 5 rfl rfl rfl (fun u => by go_simp; rfl) ?_
    simp only [Act.put, List.setIfInBounds_toArray, List.set_cons_zero, List.set_cons_succ]
    refine wpG_calc 6 rfl rfl rfl (fun u => by go_simp; rfl) ?_
    simp only [Act.put, List.setIfInBounds_toArray, List.set_cons_zero, List.set_cons_succ]
    refine wpG_calc 7 rfl rfl rfl (fun u => by go_simp; rfl) ?_
    simp only [Act.put, List.setIfInBounds_toArray, List.set_cons_zero, List.set_cons_succ]
    refine wpG_read 8 rfl rfl (.string (strOfNums ([b0]))) rfl ?_ ?_
    · intro u hu hh
      have hs := run_conv_str (P := Try.prog) Try.underlying24 Try.underlying5 Try.underlying9 (show Sl u _ _ 1 (([b0]).map (.int .u8)) from HT.out.below hu)
      go_simp
    simp only [Act.put, List.setIfInBounds_toArray, List.set_cons_zero, List.set_cons_succ]
    refine wpG_calc 9 rfl rfl rfl (fun u => by go_simp; rfl) ?_
    simp only [Act.put, List.setIfInBounds_toArray, List.set_cons_zero, List.set_cons_succ]
    refine wpG_nil fun w' hb' hF => ?_
    clear hF HT
    have hbe := hbw.trans (hb'.mono hbw.size)
    have HE := hid hbe; clear hbe hbw hb' hB
    cases B with
    | true =>
      have HUN := hid (HFIT.out.1 (HBT.out rfl))
      go_wp2
      go_ret2
      exact ⟨by rw [HUN.out]; rfl, HE.out⟩
    | false =>
      have HUN := hid (HFIT.out.2 (HBF.out rfl))
      go_wp2
      go_ret2
      exact ⟨by rw [HUN.out]; rfl, HE.out⟩


  · go_enter Try.func27, Try.ntmps27
    go_wp2
    go_rounds 1
    go_wp2_with fail
    have HW : Hid (Below w.heap.size w w) := hid (Below.refl _ _)
    have HT1 : Sl w (.slice (some ⟨b, off, none⟩) 1 c) 1 1 (([b0]).map (.int .u8)) := by have := HV.out.take 1 (by simp); simpa using this
    have hbw : Below w.heap.size w w := HW.out
    have HT := hid (HT1.below hbw); clear HT1
    have henc : encL [b0] = e1 (b0) := by simp [encL]
    obtain ⟨B, hB⟩ : ∃ B, ((strOfNums (encL [b0])).toList == (strOfNums ([b0])).toList) = B := ⟨_, rfl⟩
    have HBT : Hid (B = true → e1 (b0) = [b0]) := hid fun h => strOfNums_inj (e1_range HU0.out) HTR.out (by rw [← henc]; exact str_eq_of (hB.trans h))
    have HBF : Hid (B = false → ¬ e1 (b0) = [b0]) := hid fun h => by intro heq; rw [henc, heq] at hB; simp at hB; rw [h] at hB; cases hB
    clear henc
    go_wp2_with fail
    refine wp_region_ext [(1, sl16 [b0]), (2, sl8 (encL [b0]))] ⟨sl16_stays _, sl8_stays _, trivial⟩ (by kernel_rfl) (by kernel_rfl) ?_
    refine wpG_calc 1 rfl rfl rfl (fun u => by go_simp; rfl) ?_
    simp only [Act.put, List.setIfInBounds_toArray, List.set_cons_zero, List.set_cons_succ]
    refine wpG_rel 2 rfl rfl rfl ?_ ?_
    · intro u hu hh
      go_simp
      exact ⟨Sl.lit u _ _ 1 1 rfl, ext_alloc _ _⟩
    intro vp ⟨up, _, hrp⟩
    obtain ⟨avp, cvp, rfl⟩ := hrp.val
    clear hrp
    simp only [Act.put, List.setIfInBounds_toArray, List.set_cons_zero, List.set_cons_succ]
    refine wpG_rel 3 rfl rfl rfl ?_ ?_
    · intro u hu hh
      go_simp
      refine (encode_sl _ _ [b0] u (hh 1 rfl) HU.out (by simp)).mono ?_
      rintro e w5 ⟨v', rfl, ho⟩
      exact ⟨_, rfl, ho.sl, ho.below⟩
    intro vq ⟨uq, _, hrq⟩
    obtain ⟨avq, cvq, rfl⟩ := hrq.val
    clear hrq
    simp only [Act.put, List.setIfInBounds_toArray, List.set_cons_zero, List.set_cons_succ]
    refine wpG_read 4 rfl rfl (.string (strOfNums (encL [b0]))) rfl ?_ ?_
    · intro u hu hh
      have hs := run_conv_str (P := Try.prog) Try.underlying24 Try.underlying5 Try.underlying9 (show Sl u _ _ 1 ((encL [b0]).map (.int .u8)) from hh 2 rfl)
      go_simp
    simp only [Act.put, List.setIfInBounds_toArray, List.set_cons_zero, List.set_cons_succ]
    refine wpG_calc 5 rfl rfl rfl (fun u => by go_simp; rfl) ?_
    simp only [Act.put, List.setIfInBounds_toArray, List.set_cons_zero, List.set_cons_succ]
    refine wpG_calc 6 rfl rfl rfl (fun u => by go_simp; rfl) ?_
    simp only [Act.put, List.setIfInBounds_toArray, List.set_cons_zero, List.set_cons_succ]
    refine wpG_calc 7 rfl rfl rfl (fun u => by go_simp; rfl) ?_
    simp only [Act.put, List.setIfInBounds_toArray, List.set_cons_zero, List.set_cons_succ]
    refine wpG_read 8 rfl rfl (.string (strOfNums ([b0]))) rfl ?_ ?_
    · intro u hu hh
      have hs := run_conv_str (P := Try.prog) Try.underlying24 Try.underlying5 Try.underlying9 (show Sl u _ _ 1 (([b0]).map (.int .u8)) from HT.out.below hu)
      go_simp
    simp only [Act.put, List.setIfInBounds_toArray, List.set_cons_zero, List.set_cons_succ]
    refine wpG_calc 9 rfl rfl rfl (fun u => by go_simp; rfl) ?_
    simp only [Act.put, List.setIfInBounds_toArray, List.set_cons_zero, List.set_cons_succ]
    refine wpG_nil fun w' hb' hF => ?_
    clear hF HT
    have hbe := hbw.trans (hb'.mono hbw.size)
    have HE := hid hbe; clear hbe hbw hb' hB
    cases B with
    | true =>
      have HUN := hid (HFIT.out.1 (HBT.out rfl))
      go_wp2
      go_ret2
      exact ⟨by rw [HUN.out]; rfl, HE.out⟩
    | false =>
      have HUN := hid (HFIT.out.2 (HBF.out rfl))
      go_wp2
      go_ret2
      exact ⟨by rw [HUN.out]; rfl, HE.out⟩


set_option maxHeartbeats 1000000 in
theorem unit_short (a : Option Addr) (c : Nat) (bs : List Int) (w : World) (hv : Sl w (.slice a bs.length c) bs.length 1 (bs.map (.int .u8))) (hz : ∀ z ∈ bs, 0 ≤ z ∧ z ≤ 255) (hn : 1 ≤ bs.length) (h3 : bs.length < uN (bs.getD 0 0)) :
    Calls Try.prog 27 #[.slice a bs.length c] w (Unit w bs) := by
  have hu : unitOf bs = (0, 0) := by unfold unitOf; rw [if_pos h3]
  match bs, hn with
  | b0 :: r, _ =>
  obtain ⟨b, off, rfl, hc0⟩ := hv.ints (k := 0) (by simp)
  simp only [List.getElem_cons_zero, Nat.add_zero, List.length_cons, List.getD_cons_zero] at hc0 h3
  obtain ⟨p0, q0⟩ := hz b0 (by simp)
  have HU := hid hu; clear hz hv hu
  by_cases h6 : b0 / 32 = 6
  · have n3 : uN b0 = 2 := by unfold uN; rw [if_pos h6]
    have t6 : (b0 / 32 == 6) = true := by simpa using h6
    have hr : (r.length : Int) + 1 < 2 := by omega
    clear n3 h3 h6
    go_enter Try.func27, Try.ntmps27
    go_wp2
    go_ret2
    exact ⟨by rw [HU.out]; rfl, Below.refl _ _⟩
  · have t6 : (b0 / 32 == 6) = false := by simpa using h6
    by_cases h14 : b0 / 16 = 14
    · have n3 : uN b0 = 3 := by unfold uN; rw [if_neg h6, if_pos h14]
      have t14 : (b0 / 16 == 14) = true := by simpa using h14
      have hr : (r.length : Int) + 1 < 3 := by omega
      clear n3 h3 h6 h14
      go_enter Try.func27, Try.ntmps27
      go_wp2
      go_ret2
      exact ⟨by rw [HU.out]; rfl, Below.refl _ _⟩
    · have n3 : uN b0 = 1 := by unfold uN; rw [if_neg h6, if_neg h14]
      omega

/-- utf.unit, for all bytes that are not empty -/
theorem unit_sl (v : Value) (n : Nat) (bs : List Int) (w : World) (hv : Sl w v n 1 (bs.map (.int .u8))) (hz : ∀ z ∈ bs, 0 ≤ z ∧ z ≤ 255) (hn : 1 ≤ bs.length) :
    Calls Try.prog 27 #[v] w (Unit w bs) := by
  have hl : bs.length = n := by have := hv.1; simpa using this
  subst hl
  obtain ⟨a, c, rfl⟩ := hv.val
  by_cases hs : bs.length < uN (bs.getD 0 0)
  · exact unit_short a c bs w hv hz hn hs
  · by_cases h6 : bs.getD 0 0 / 32 = 6
    · exact unit_2 a c bs w hv hz (by unfold uN at hs; rw [if_pos h6] at hs; omega) h6
    · by_cases h14 : bs.getD 0 0 / 16 = 14
      · exact unit_3 a c bs w hv hz (by unfold uN at hs; rw [if_neg h6, if_pos h14] at hs; omega) h14
      · exact unit_1 a c bs w hv hz hn h6 h14

end Go.Proofs.Ytngegkhcgomjcaa.utfs
