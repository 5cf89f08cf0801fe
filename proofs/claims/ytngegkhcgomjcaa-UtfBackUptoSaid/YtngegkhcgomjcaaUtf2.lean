/- The euro sign's bytes, as euro asks. No condition. -/
import Derived.Test.YtngegkhcgomjcaaUtf1
import Derived.Test.YtngegkhcgomjcaaGrow
namespace Go.Proofs.Ytngegkhcgomjcaa.utfs
open Go.RowKit Go.Proofs.Ytngegkhcgomjcaa.lib Go.Proofs.Ytngegkhcgomjcaa.grow

def sl8 (xs : List Int) : Value → World → Prop := fun v u => Sl u v xs.length 1 (xs.map (.int .u8))
def sl16 (xs : List Int) : Value → World → Prop := fun v u => Sl u v xs.length 1 (xs.map (.int .u16))
theorem sl8_stays (xs : List Int) : ∀ v w w', Below w.heap.size w w' → sl8 xs v w → sl8 xs v w' := fun _ _ _ h k => k.below h
theorem sl16_stays (xs : List Int) : ∀ v w w', Below w.heap.size w w' → sl16 xs v w → sl16 xs v w' := fun _ _ _ h k => k.below h

set_option maxHeartbeats 400000 in
theorem euro_any (w : World) : Calls Try.prog 9 #[] w fun e w' => e = .returned (.bool true) ∧ Below w.heap.size w w' := by
  go_enter Try.func9, Try.ntmps9
  go_wp2_with fail
  refine wp_region_ext [(0, sl16 [8364, 0]), (1, sl8 [226, 130, 172, 192, 128]), (3, sl8 [226, 130, 172, 192, 128])] ⟨sl16_stays _, sl8_stays _, sl8_stays _, trivial⟩ (by kernel_rfl) (by kernel_rfl) ?_
  refine wpG_rel 1 rfl rfl rfl ?_ ?_
  · intro u _ _
    go_simp
    exact ⟨Sl.lit u _ _ 2 1 rfl, ext_alloc _ _⟩
  intro v0 ⟨u0, _, hr0⟩
  obtain ⟨a0, c0, rfl⟩ := hr0.val
  clear hr0
  simp only [Act.put, List.setIfInBounds_toArray, List.set_cons_zero, List.set_cons_succ]
  refine wpG_rel 2 rfl rfl rfl ?_ ?_
  · intro u hu hh
    have h0 : sl16 [8364, 0] (.slice a0 2 c0) u := hh 0 rfl
    go_simp
    refine (encode_any a0 c0 [8364, 0] u h0 (by simp) (by simp)).mono ?_
    rintro e w1 ⟨v', rfl, ho⟩
    exact ⟨_, rfl, ho.sl, ho.below⟩
  intro v1 ⟨u1, _, hr1⟩
  obtain ⟨a1, c1, rfl⟩ := hr1.val
  clear hr1
  simp only [Act.put, List.setIfInBounds_toArray, List.set_cons_zero, List.set_cons_succ]
  refine wpG_read 3 rfl rfl (.string (strOfNums [226, 130, 172, 192, 128])) rfl ?_ ?_
  · intro u _ hh
    have h0 : sl8 [226, 130, 172, 192, 128] (.slice a1 5 c1) u := hh 1 rfl
    have hr := run_conv_str (P := Try.prog) Try.underlying24 Try.underlying5 Try.underlying9 h0
    go_simp
  simp only [Act.put, List.setIfInBounds_toArray, List.set_cons_zero, List.set_cons_succ]
  refine wpG_rel 4 rfl rfl rfl ?_ ?_
  · intro u _ _
    go_simp
    exact ⟨Sl.lit u _ _ 5 1 rfl, ext_alloc _ _⟩
  intro v3 ⟨u3, _, hr3⟩
  obtain ⟨a3, c3, rfl⟩ := hr3.val
  clear hr3
  simp only [Act.put, List.setIfInBounds_toArray, List.set_cons_zero, List.set_cons_succ]
  refine wpG_read 5 rfl rfl (.string (strOfNums [226, 130, 172, 192, 128])) rfl ?_ ?_
  · intro u _ hh
    have h0 : sl8 [226, 130, 172, 192, 128] (.slice a3 5 c3) u := hh 3 rfl
    have hr := run_conv_str (P := Try.prog) Try.underlying24 Try.underlying5 Try.underlying9 h0
    go_simp
  simp only [Act.put, List.setIfInBounds_toArray, List.set_cons_zero, List.set_cons_succ]
  refine wpG_calc 6 rfl rfl rfl (fun u => by go_simp; rfl) ?_
  simp only [Act.put, List.setIfInBounds_toArray, List.set_cons_zero, List.set_cons_succ]
  refine wpG_calc 7 rfl rfl rfl (fun u => by go_simp; rfl) ?_
  simp only [Act.put, List.setIfInBounds_toArray, List.set_cons_zero]
  refine wpG_nil fun w' hb _ => ?_
  go_wp2
  go_ret
  exact ⟨rfl, hb⟩

end Go.Proofs.Ytngegkhcgomjcaa.utfs
