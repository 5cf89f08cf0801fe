/- The units of bytes: what utf.Decode computes. Condition: not too many bytes. -/
import Derived.Test.YtngegkhcgomjcaaUtf4
namespace Go.Proofs.Ytngegkhcgomjcaa.utfs
open Go.RowKit Go.Proofs.Ytngegkhcgomjcaa.lib Go.Proofs.Ytngegkhcgomjcaa.grow

def decF : Nat → List Int → Option (List Int)
  | 0, _ => some []
  | f + 1, bs => if bs = [] then some [] else if (unitOf bs).2 = 0 then none else (decF f (bs.drop (unitOf bs).2)).map ((unitOf bs).1 :: ·)
def decL (bs : List Int) : Option (List Int) := decF bs.length bs

theorem unitOf_le (bs : List Int) : (unitOf bs).2 ≤ bs.length := by
  unfold unitOf
  split
  · simp
  · split
    · show uN (bs.getD 0 0) ≤ bs.length; omega
    · simp
theorem unitOf_three (bs : List Int) : (unitOf bs).2 ≤ 3 := by
  have : uN (bs.getD 0 0) ≤ 3 := by unfold uN; split <;> (try split) <;> omega
  unfold unitOf
  split
  · simp
  · split
    · exact this
    · simp
theorem decF_fuel : ∀ (f g : Nat) (bs : List Int), bs.length ≤ f → bs.length ≤ g → decF f bs = decF g bs
  | 0, g, bs, hf, _ => by
    have : bs = [] := List.eq_nil_of_length_eq_zero (by omega)
    subst this
    cases g <;> simp [decF]
  | f + 1, 0, bs, _, hg => by
    have : bs = [] := List.eq_nil_of_length_eq_zero (by omega)
    subst this
    simp [decF]
  | f + 1, g + 1, bs, hf, hg => by
    simp only [decF]
    split
    · rfl
    · split
      · rfl
      · rw [decF_fuel f g _ (by rw [List.length_drop]; omega) (by rw [List.length_drop]; omega)]
theorem decL_nil : decL [] = some [] := rfl
theorem decL_cons {bs : List Int} (h : bs ≠ []) : decL bs = if (unitOf bs).2 = 0 then none else (decL (bs.drop (unitOf bs).2)).map ((unitOf bs).1 :: ·) := by
  have hl : bs.length = (bs.length - 1) + 1 := by have := List.length_pos_iff.2 h; omega
  unfold decL
  rw [hl]
  simp only [decF, h, if_false]
  split
  · rfl
  · rw [decF_fuel (bs.length - 1) (bs.drop (unitOf bs).2).length _ (by rw [List.length_drop]; omega) (Nat.le_refl _)]

theorem info35' : (Try.prog.info? 35).map (fun i => (i.zero, i.size, i.bytes)) = some (some (.int .u16 0), 1, 2) := by kernel_rfl

/-- what Decode hands back -/
def Decoded (w : World) (bs : List Int) (e : Ending) (w' : World) : Prop :=
  match decL bs with
  | some us => ∃ v, e = .returned (.tuple #[v, .nilIface]) ∧ Out w w' 35 1 v us.length (us.map (.int .u16))
  | none => e = .returned (.tuple #[.slice none 0 0, .iface 33 (.int .i64 1)]) ∧ Below w.heap.size w w'

/-- after some rounds: what is left, what is made -/
structure DecRel (w wr : World) (bs : List Int) (b v : Value) (k : Nat) (us : List Int) : Prop where
  kle : k ≤ bs.length
  rest : Sl w b (bs.length - k) 1 ((bs.drop k).map (.int .u8))
  out : Out w wr 35 1 v us.length (us.map (.int .u16))
  says : decL bs = (decL (bs.drop k)).map (us ++ ·)
  few : us.length ≤ k

theorem dec_none {w wr w' : World} {bs : List Int} {b v : Value} {k : Nat} {us : List Int} {u : Int} {e : Ending} (h : DecRel w wr bs b v k us) (hd : decL (bs.drop k) = if (u, 0).2 = 0 then none else (decL ((bs.drop k).drop (u, 0).2)).map ((u, 0).1 :: ·))
    (_hq : unitOf (bs.drop k) = (u, 0)) (he : e = .returned (.tuple #[.slice none 0 0, .iface 33 (.int .i64 1)])) (hb : Below w.heap.size w w') : Decoded w bs e w' := by
  have h1 := h.says
  rw [hd] at h1
  simp at h1
  unfold Decoded
  rw [h1]
  exact ⟨he, hb⟩
theorem dec_step {w wr w' : World} {bs : List Int} {a : Option Addr} {c : Nat} {v v' : Value} {k m : Nat} {us : List Int} {u : Int} (h : DecRel w wr bs (.slice a (bs.length - k) c) v k us) (hd : decL (bs.drop k) = if (u, m).2 = 0 then none else (decL ((bs.drop k).drop (u, m).2)).map ((u, m).1 :: ·))
    (hm : ¬ m = 0) (hml : m ≤ bs.length - k) (ho : Out w w' 35 1 v' (us.length + 1) (us.map (.int .u16) ++ [.int .u16 u])) :
    DecRel w w' bs (.slice (if c = m then a else a.map (·.add m)) (bs.length - k - m) (c - m)) v' (k + m) (us ++ [u]) := by
  have hk := h.kle
  refine ⟨by omega, ?_, ?_, ?_, ?_⟩
  · have := h.rest.drop m hml
    simp only [Nat.mul_one] at this
    rw [show bs.length - (k + m) = bs.length - k - m by omega]
    rw [← List.map_drop, List.drop_drop] at this
    exact this
  · simpa using ho
  · rw [h.says, hd, if_neg hm, List.drop_drop]
    cases decL (bs.drop (k + m)) <;> simp
  · have := h.few; simp; omega

set_option maxHeartbeats 1000000 in
theorem decode_any (a : Option Addr) (c : Nat) (bs : List Int) (w : World) (hv : Sl w (.slice a bs.length c) bs.length 1 (bs.map (.int .u8))) (hz : ∀ z ∈ bs, 0 ≤ z ∧ z ≤ 255) (hn : bs.length ≤ 10000000) :
    Calls Try.prog 11 #[.slice a bs.length c] w (Decoded w bs) := by
  have HV := hid hv; have HZ := hid hz; clear hv hz
  go_enter Try.func11, Try.ntmps11
  go_wp2
  go_loopw [0, 4] (fun b v wr => ∃ k us, Hid (DecRel w wr bs b v k us)) (fun b _ _ => slen b)
  case atStart => exact ⟨0, [], hid ⟨Nat.zero_le _, by simpa using HV.out, Out.nil _ _ _, by simp, Nat.le_refl _⟩⟩
  case round =>
    obtain ⟨k, us, HR⟩ := hrel
    obtain ⟨a', c', rfl⟩ := HR.out.rest.val
    have hk := HR.out.kle
    have HL : Hid (Sl wr (.slice a' (bs.length - k) c') (bs.length - k) 1 ((bs.drop k).map (.int .u8))) := hid (HR.out.rest.below HR.out.out.below)
    have hcap := HR.out.rest.cap.2
    by_cases hlt : k < bs.length
    · have hpos : (0 : Int) < ((bs.length - k : Nat) : Int) := by omega
      have hne : bs.drop k ≠ [] := by intro h; have := congrArg List.length h; simp at this; omega
      have HD := hid (decL_cons hne); clear hne
      go_wp2_with fail
      refine (unit_sl _ _ (bs.drop k) wr HL.out (fun z hz => HZ.out z (List.mem_of_mem_drop hz)) (by simp; omega)).mono ?_
      rintro e w1 ⟨rfl, hb1⟩
      have hu3 := unitOf_three (bs.drop k)
      have hul := unitOf_le (bs.drop k)
      rw [List.length_drop] at hul
      have HO1 := hid (HR.out.out.later hb1)
      generalize hq : unitOf (bs.drop k) = q at HD hu3 hul ⊢
      obtain ⟨u, m⟩ := q
      have HQ := hid hq; clear hq
      simp only at hu3 hul
      by_cases hm : m = 0
      · subst hm
        go_wp2
        go_ret2
        refine dec_none HR.out HD.out HQ.out rfl ?_
        exact HR.out.out.below.trans (hb1.mono HR.out.out.below.size)
      · have hmf : ((m : Int) == 0) = false := by simp; omega
        have hm0 : (0 : Int) ≤ (m : Int) := by omega
        have hml : (m : Int) ≤ ((bs.length - k : Nat) : Int) := by omega
        have hus := HR.out.few
        by_cases hc : c' = m
        · subst hc
          go_wp2_with fail
          go_region_law (refine step_append_out w _ _ rfl _ _ 22 rfl 35 (.int .u16 0) 1 2 1 Try.underlying22 info35' rfl (by decide) _ _ _ HO1.out.drew rfl rfl rfl (by intro x hx; simp at hx; subst hx; rfl) (by omega) (by omega) (fun v' w' ho hg => ?_))
          go_wp2
          go_roundw
          case rel =>
            have hs := dec_step HR.out HD.out hm hul ho
            rw [if_pos rfl, show bs.length - k - c' = 0 by omega, Nat.sub_self] at hs
            exact ⟨_, _, _, _, ⟨k + c', us ++ [u], hid hs⟩, rfl, rfl, rfl, rfl⟩
          case measure => show 0 < bs.length - k; omega
        · have hmc : (m : Int) ≤ (c' : Int) := by omega
          go_wp2_with fail
          go_region_law (refine step_append_out w _ _ rfl _ _ 22 rfl 35 (.int .u16 0) 1 2 1 Try.underlying22 info35' rfl (by decide) _ _ _ HO1.out.drew rfl rfl rfl (by intro x hx; simp at hx; subst hx; rfl) (by omega) (by omega) (fun v' w' ho hg => ?_))
          go_wp2
          go_roundw
          case rel =>
            have hs := dec_step HR.out HD.out hm hul ho
            rw [if_neg hc] at hs
            exact ⟨_, _, _, _, ⟨k + m, us ++ [u], hid hs⟩, rfl, rfl, rfl, rfl⟩
          case measure => show bs.length - k - m < bs.length - k; omega
    · have hpos : bs.length - k = 0 := by omega
      go_wp2_with fail
      go_ret2
      have : bs.drop k = [] := List.drop_eq_nil_of_le (by omega)
      have hd := HR.out.says
      rw [this, decL_nil] at hd
      simp at hd
      unfold Decoded
      rw [hd]
      exact ⟨_, rfl, HR.out.out⟩

end Go.Proofs.Ytngegkhcgomjcaa.utfs
