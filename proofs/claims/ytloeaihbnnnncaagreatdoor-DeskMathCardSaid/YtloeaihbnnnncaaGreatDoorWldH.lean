/- Heaps: heap.Does. Condition: the world was read, the heap's types are right. -/
import Derived.Test.YtloeaihbnnnncaaGreatDoorWldF
import Derived.Test.YtloeaihbnnnncaaGreatDoorNum1
set_option linter.unusedSimpArgs false
set_option linter.unusedVariables false
namespace Go.Proofs.YtloeaihbnnnncaaGreatDoor.worlds
open Go.RowKit Go.Proofs.YtloeaihbnnnncaaGreatDoor.lib Go.Proofs.YtloeaihbnnnncaaGreatDoor.maps Go.Proofs.YtloeaihbnnnncaaGreatDoor.classes Go.Proofs.YtloeaihbnnnncaaGreatDoor.errs Go.Proofs.YtloeaihbnnnncaaGreatDoor.grow Go.Proofs.YtloeaihbnnnncaaGreatDoor.nums Go.Proofs.YtloeaihbnnnncaaGreatDoor.descs

set_option maxRecDepth 100000 in
set_option maxHeartbeats 8000000 in
theorem hdoes_any (W : WL) (b : Nat) (vt : Value) (H : List Th) (k n : Int) (t : ByteArray) (w : World) (hW : Wd w b W) (hH : Ths w vt H) (hty : ∀ x ∈ H, isTy x.ty.data.toList = true) (ht : isTy t.data.toList = true) (hn : H.length ≤ 1048576) :
    Calls Tryz.prog 30 #[.map (some b), .agg #[vt], .agg #[.int .i64 k, .int .i64 n], .string t] w fun e w' => e = .returned (.bool (doesV W H ⟨k, n⟩ t.data.toList)) ∧ Below w.heap.size w w' := by
  obtain ⟨ah, ch, rfl⟩ := hH.sl.val
  have HW := hid hW; have HH := hid hH; have HTY := hid hty; have HT := hid ht
  obtain ⟨W1, hW1⟩ : ∃ W1, w.alloc (.cells #[.slice ah H.length ch] 80) = W1 := ⟨_, rfl⟩
  have HB1 : Hid (Below w.heap.size w W1) := hid (hW1 ▸ ext_alloc _ _)
  have hlt1 : w.heap.size < W1.heap.size := by rw [← hW1]; simp
  have hr1 : W1.heap[w.heap.size]? = some (.cells #[.slice ah H.length ch] 80 (0, 0)) := hW1 ▸ heap_alloc_new _ _
  obtain ⟨W2, hW2⟩ : ∃ W2, W1.alloc (.cells #[.int .i64 k, .int .i64 n] 36) = W2 := ⟨_, rfl⟩
  have HB12 : Hid (Below W1.heap.size W1 W2) := hid (hW2 ▸ ext_alloc _ _)
  have HB2 := hid (HB1.out.trans (HB12.out.mono HB1.out.size))
  have hlt2 : W1.heap.size < W2.heap.size := by rw [← hW2]; simp
  have hr2 : W2.heap[W1.heap.size]? = some (.cells #[.int .i64 k, .int .i64 n] 36 (0, 0)) := hW2 ▸ heap_alloc_new _ _
  have HV : Hid (∀ u, Below W2.heap.size W2 u → u.cell? ⟨W1.heap.size, 0, none⟩ = some (.int .i64 k) ∧ u.cell? ⟨W1.heap.size, 1, none⟩ = some (.int .i64 n)) := hid (fun u hu => by
    have h := (hu.block _ hlt2).trans hr2
    refine ⟨?_, ?_⟩ <;> (rw [cell_of_row _ _ _ _ _ _ h]; rfl))
  have HK : Hid (∀ u, Below W2.heap.size W2 u → u.cell? ⟨w.heap.size, 0, none⟩ = some (.slice ah H.length ch)) := hid (fun u hu => by
    have h := (hu.block _ (Nat.lt_trans hlt1 hlt2)).trans ((HB12.out.block _ hlt1).trans hr1)
    rw [cell_of_row _ _ _ _ _ _ h]; rfl)
  obtain ⟨x0, x1⟩ := HV.out _ (Below.refl _ _)
  have x2 := HK.out _ (Below.refl _ _)
  clear hH hty hr1 hr2 hW
  by_cases h1 : k = 1
  · subst h1
    by_cases hI : t.data.toList = [73]
    · have HZ : Hid (doesV W H ⟨1, n⟩ t.data.toList = decide (n = wrap32 n)) := hid (by rw [hI]; unfold doesV; simp)
      obtain rfl : t = ⟨#[73]⟩ := (int_letters t).2 hI
      clear hI
      go_enter Tryz.func30, Tryz.ntmps30
      go_wp2_with fail
      refine wp_region_ext [(7, is (.int .i64 (wrap32 n)))] ⟨is_stays _, trivial⟩ (by kernel_rfl) (by kernel_rfl) ?_
      refine wpG_calc 1 rfl rfl rfl (fun u => by go_simp; rfl) ?_
      simp only [Act.put, List.setIfInBounds_toArray, List.set_cons_zero, List.set_cons_succ]
      refine wpG_calc (v := .bool true) 2 rfl rfl rfl (fun u => by first | (go_simp; done) | (go_simp; rfl)) ?_
      simp only [Act.put, List.setIfInBounds_toArray, List.set_cons_zero, List.set_cons_succ]
      refine wpG_calc 3 rfl rfl rfl (fun u => by go_simp; rfl) ?_
      simp only [Act.put, List.setIfInBounds_toArray, List.set_cons_zero, List.set_cons_succ]
      refine wpG_calc 4 rfl rfl rfl (fun u => by go_simp; rfl) ?_
      simp only [Act.put, List.setIfInBounds_toArray, List.set_cons_zero, List.set_cons_succ]
      refine wpG_read 5 rfl rfl (.int .i64 n) rfl ?_ ?_
      · intro u hu hh
        obtain ⟨y0, y1⟩ := HV.out u hu
        go_simp
      simp only [Act.put, List.setIfInBounds_toArray, List.set_cons_zero, List.set_cons_succ]
      refine wpG_calc 6 rfl rfl rfl (fun u => by go_simp; rfl) ?_
      simp only [Act.put, List.setIfInBounds_toArray, List.set_cons_zero, List.set_cons_succ]
      refine wpG_read 7 rfl rfl (.int .i64 n) rfl ?_ ?_
      · intro u hu hh
        obtain ⟨y0, y1⟩ := HV.out u hu
        go_simp
      simp only [Act.put, List.setIfInBounds_toArray, List.set_cons_zero, List.set_cons_succ]
      refine wpG_rel 8 rfl rfl rfl ?_ ?_
      · intro u hu hh
        go_simp
        refine (word_any n u).mono ?_
        rintro e w2 ⟨rfl, rfl⟩
        exact ⟨_, rfl, rfl, Below.refl _ _⟩
      intro vC ⟨uC, _, hrC⟩
      obtain rfl : vC = .int .i64 (wrap32 n) := hrC
      simp only [Act.put, List.setIfInBounds_toArray, List.set_cons_zero, List.set_cons_succ]
      refine wpG_calc 9 rfl rfl rfl (fun u => by go_simp; rfl) ?_
      simp only [Act.put, List.setIfInBounds_toArray, List.set_cons_zero, List.set_cons_succ]
      refine wpG_calc 10 rfl rfl rfl (fun u => by go_simp; rfl) ?_
      simp only [Act.put, List.setIfInBounds_toArray, List.set_cons_zero, List.set_cons_succ]
      refine wpG_calc 11 rfl rfl rfl (fun u => by go_simp; rfl) ?_
      simp only [Act.put, List.setIfInBounds_toArray, List.set_cons_zero, List.set_cons_succ]
      refine wpG_nil fun w' hb' hF => ?_
      clear hF
      have HBf := hid (HB2.out.trans (hb'.mono HB2.out.size))
      clear hb'
      go_wp2
      go_ret
      exact ⟨by rw [HZ.out]; first | rfl | (simp; done), HBf.out⟩
    · have HZ : Hid (doesV W H ⟨1, n⟩ t.data.toList = false) := hid (by unfold doesV; simp [hI])
      have g1 : ¬ t.toList = [73] := fun h => hI (str_list.1 h)
      have hf1 : (t.toList == [73]) = false := beq_eq_false_iff_ne.2 g1
      clear hI
      go_enter Tryz.func30, Tryz.ntmps30
      go_wp2_with fail
      refine wp_region_ext [] trivial (by kernel_rfl) (by kernel_rfl) ?_
      refine wpG_calc 1 rfl rfl rfl (fun u => by go_simp; rfl) ?_
      simp only [Act.put, List.setIfInBounds_toArray, List.set_cons_zero, List.set_cons_succ]
      refine wpG_calc (v := .bool false) 2 rfl rfl rfl (fun u => by first | (go_simp; done) | (go_simp; simp [hf1])) ?_
      simp only [Act.put, List.setIfInBounds_toArray, List.set_cons_zero, List.set_cons_succ]
      refine wpG_calc 3 rfl rfl rfl (fun u => by go_simp; rfl) ?_
      simp only [Act.put, List.setIfInBounds_toArray, List.set_cons_zero, List.set_cons_succ]
      refine wpG_skip 4 rfl rfl ?_
      simp only [Act.put, List.setIfInBounds_toArray, List.set_cons_zero, List.set_cons_succ]
      refine wpG_skip 5 rfl rfl ?_
      simp only [Act.put, List.setIfInBounds_toArray, List.set_cons_zero, List.set_cons_succ]
      refine wpG_skip 6 rfl rfl ?_
      simp only [Act.put, List.setIfInBounds_toArray, List.set_cons_zero, List.set_cons_succ]
      refine wpG_skip 7 rfl rfl ?_
      simp only [Act.put, List.setIfInBounds_toArray, List.set_cons_zero, List.set_cons_succ]
      refine wpG_skip 8 rfl rfl ?_
      simp only [Act.put, List.setIfInBounds_toArray, List.set_cons_zero, List.set_cons_succ]
      refine wpG_skip 9 rfl rfl ?_
      simp only [Act.put, List.setIfInBounds_toArray, List.set_cons_zero, List.set_cons_succ]
      refine wpG_calc 10 rfl rfl rfl (fun u => by go_simp; rfl) ?_
      simp only [Act.put, List.setIfInBounds_toArray, List.set_cons_zero, List.set_cons_succ]
      refine wpG_calc 11 rfl rfl rfl (fun u => by go_simp; rfl) ?_
      simp only [Act.put, List.setIfInBounds_toArray, List.set_cons_zero, List.set_cons_succ]
      refine wpG_nil fun w' hb' hF => ?_
      clear hF
      have HBf := hid (HB2.out.trans (hb'.mono HB2.out.size))
      clear hb'
      go_wp2
      go_ret
      exact ⟨by rw [HZ.out]; rfl, HBf.out⟩
  by_cases h2 : k = 2
  · subst h2
    by_cases hI : t.data.toList = [74]
    · have HZ : Hid (doesV W H ⟨2, n⟩ t.data.toList = true) := hid (by rw [hI]; unfold doesV; simp)
      have g1 : t.toList = [74] := str_list.2 hI
      have hf1 : (t.toList == [74]) = true := by rw [g1]; rfl
      clear hI
      go_enter Tryz.func30, Tryz.ntmps30
      go_wp2
      go_ret
      exact ⟨by rw [HZ.out]; first | rfl | (simp [hf1]; done), HB2.out⟩
    · have HZ : Hid (doesV W H ⟨2, n⟩ t.data.toList = false) := hid (by unfold doesV; simp [hI])
      have g1 : ¬ t.toList = [74] := fun h => hI (str_list.1 h)
      have hf1 : (t.toList == [74]) = false := beq_eq_false_iff_ne.2 g1
      clear hI
      go_enter Tryz.func30, Tryz.ntmps30
      go_wp2
      go_ret
      exact ⟨by rw [HZ.out]; first | rfl | (simp [hf1]; done), HB2.out⟩
  by_cases h3 : k = 3
  · subst h3
    have HRT := hid (refs_any t)
    cases hr : refs t.data.toList with
    | false =>
      have HZ : Hid (doesV W H ⟨3, n⟩ t.data.toList = false) := hid (by unfold doesV; simp [hr])
      rw [hr] at HRT
      clear hr
      go_enter Tryz.func30, Tryz.ntmps30
      go_wp2_with fail
      refine (HRT.out _).mono ?_
      rintro e w3 ⟨rfl, rfl⟩
      go_wp2
      go_ret
      exact ⟨by rw [HZ.out]; rfl, HB2.out⟩
    | true =>
      rw [hr] at HRT
      by_cases hn0 : n < 0
      · have HZ : Hid (doesV W H ⟨3, n⟩ t.data.toList = false) := hid (by unfold doesV; simp [hr, hn0])
        clear hr
        go_enter Tryz.func30, Tryz.ntmps30
        go_wp2_with fail
        refine (HRT.out _).mono ?_
        rintro e w3 ⟨rfl, rfl⟩
        go_wp2
        go_ret
        exact ⟨by rw [HZ.out]; rfl, HB2.out⟩
      by_cases hn1 : (H.length : Int) < n
      · have HZ : Hid (doesV W H ⟨3, n⟩ t.data.toList = false) := hid (by unfold doesV; simp [hr, hn1])
        clear hr
        go_enter Tryz.func30, Tryz.ntmps30
        go_wp2_with fail
        refine (HRT.out _).mono ?_
        rintro e w3 ⟨rfl, rfl⟩
        go_wp2
        go_ret
        exact ⟨by rw [HZ.out]; rfl, HB2.out⟩
      by_cases hnz : n = 0
      · subst hnz
        have HZ : Hid (doesV W H ⟨3, 0⟩ t.data.toList = true) := hid (by unfold doesV; simp [hr])
        clear hr
        go_enter Tryz.func30, Tryz.ntmps30
        go_wp2_with fail
        refine (HRT.out _).mono ?_
        rintro e w3 ⟨rfl, rfl⟩
        go_wp2
        go_ret
        exact ⟨by rw [HZ.out]; rfl, HB2.out⟩
      obtain ⟨m, rfl⟩ : ∃ m : Nat, n = (m : Int) + 1 := ⟨(n - 1).toNat, by omega⟩
      have hm : m < H.length := by omega
      obtain ⟨bb, off, hab, hd0, _⟩ := th_at (HH.out.below HB2.out) hm
      subst hab
      have HZ : Hid (doesV W H ⟨3, (m : Int) + 1⟩ t.data.toList = doesL W H[m].ty.data.toList t.data.toList) := hid (by
        unfold doesV
        have e1 : ((m : Int) + 1 - 1).toNat = m := by omega
        simp only [e1, List.getElem?_eq_getElem hm]
        rw [if_neg (by omega), if_neg (by omega), if_pos trivial, if_neg (by rintro (h | h | h); exact absurd (hr ▸ h) (by simp); omega; omega), if_neg (by omega)])
      have HD := hid (does_any W b (fun x => HW.out.good.faces' x) HW.out.most H[m].ty.size H[m].ty t W2 (Nat.le_refl _) (HTY.out _ (List.getElem_mem hm)) HT.out (HW.out.at_.below HB2.out))
      generalize H[m] = x at hd0 HZ HD
      have hw : wrap64 ((m : Int) + 1 - 1) = (m : Int) := by unfold wrap64; omega
      have hz0 : ¬ (m : Int) + 1 = 0 := by omega
      have hm0 : (0 : Int) ≤ (m : Int) := by omega
      have hm1 : (m : Int) < (H.length : Int) := by omega
      have hm2 : ¬ (m : Int) + 1 < 0 := by omega
      have hm3 : ¬ (H.length : Int) < (m : Int) + 1 := by omega
      clear hr
      go_enter Tryz.func30, Tryz.ntmps30
      go_wp2_with fail
      refine (HRT.out _).mono ?_
      rintro e w3 ⟨rfl, rfl⟩
      go_wp2_with fail
      refine HD.out.mono ?_
      rintro e w4 ⟨rfl, hb4⟩
      have HB4 := hid (HB2.out.trans (hb4.mono HB2.out.size))
      clear hb4
      go_wp2
      go_ret
      exact ⟨by rw [HZ.out]; rfl, HB4.out⟩
  · have HZ : Hid (doesV W H ⟨k, n⟩ t.data.toList = false) := hid (by unfold doesV; simp [h1, h2, h3])
    have e1 : (k == 1) = false := by simpa using h1
    have e2 : (k == 2) = false := by simpa using h2
    have e3 : (k == 3) = false := by simpa using h3
    go_enter Tryz.func30, Tryz.ntmps30
    go_wp2
    go_ret
    exact ⟨by rw [HZ.out]; rfl, HB2.out⟩
end Go.Proofs.YtloeaihbnnnncaaGreatDoor.worlds

/- Worlds: world.Read, with what a read world has. Condition: the classes are not great. -/
set_option linter.unusedSimpArgs false
set_option linter.unusedVariables false
namespace Go.Proofs.YtloeaihbnnnncaaGreatDoor.worlds
open Go.RowKit Go.Proofs.YtloeaihbnnnncaaGreatDoor.lib Go.Proofs.YtloeaihbnnnncaaGreatDoor.maps Go.Proofs.YtloeaihbnnnncaaGreatDoor.classes Go.Proofs.YtloeaihbnnnncaaGreatDoor.errs Go.Proofs.YtloeaihbnnnncaaGreatDoor.ins

theorem load_mem : ∀ {l : List CV} {W V : WL} {f : Int}, load W l = (f, V) → ∀ p ∈ V, p ∈ W ∨ p.2 ∈ l
  | [], W, V, f, h, p, hp => by
    simp only [load, Prod.mk.injEq] at h
    obtain ⟨_, rfl⟩ := h
    exact .inl hp
  | c :: r, W, V, f, h, p, hp => by
    unfold load at h
    by_cases h1 : clsFault c ≠ 0
    · rw [if_pos h1] at h
      simp only [Prod.mk.injEq] at h
      obtain ⟨_, rfl⟩ := h
      exact .inl hp
    rw [if_neg h1] at h
    by_cases h2 : (getK W c.nm).isSome = true
    · rw [if_pos h2] at h
      simp only [Prod.mk.injEq] at h
      obtain ⟨_, rfl⟩ := h
      exact .inl hp
    rw [if_neg h2] at h
    rcases load_mem h p hp with h3 | h3
    · rcases mem_set h3 with h4 | rfl
      · exact .inl h4
      · exact .inr (List.mem_cons_self ..)
    · exact .inr (List.mem_cons_of_mem _ h3)
theorem read_inv {l : List CV} {W : WL} (h : readW l = (0, W)) : load firstW l = (0, W) ∧ l.length ≤ 10 := by
  unfold readW at h
  by_cases h0 : 10 < l.length
  · rw [if_pos h0] at h; simp at h
  rw [if_neg h0] at h
  obtain ⟨f, V, hV⟩ : ∃ f V, load firstW l = (f, V) := ⟨_, _, rfl⟩
  rw [hV] at h
  simp only at h
  by_cases h1 : f ≠ 0
  · rw [if_pos h1] at h
    simp only [Prod.mk.injEq] at h
    exact absurd h.1 h1
  rw [if_neg h1] at h
  obtain rfl : f = 0 := by simpa using h1
  by_cases h2 : firstF (joinFault V) l ≠ 0
  · rw [if_pos h2] at h
    simp only [Prod.mk.injEq] at h
    exact absurd h.1 h2
  rw [if_neg h2] at h
  by_cases h3 : firstF (roundFault V) l ≠ 0
  · rw [if_pos h3] at h
    simp at h
  rw [if_neg h3] at h
  simp only [Prod.mk.injEq, true_and] at h
  subst h
  exact ⟨hV, by omega⟩
theorem read_wd {l : List CV} {W : WL} {w : World} {b : Nat} (h : readW l = (0, W)) (hs : ∀ c ∈ l, SmallC c) (hw : WAt w b W) : Wd w b W := by
  obtain ⟨h1, h2⟩ := read_inv h
  have h3 := load_len h1
  have e : firstW.length = 2 := rfl
  refine ⟨hw, read_good h, Nat.le_trans (most_small (by omega) (fun p hp => ?_)) (by omega)⟩
  rcases load_mem h1 p hp with h4 | h4
  · rcases List.mem_cons.1 h4 with rfl | h4
    · simp [objC, zeroC]
    · obtain rfl := List.mem_singleton.1 h4
      simp [fltC, zeroC]
  · exact (hs _ h4).flen
/-- what world.Read answers, with what a read world has -/
def ReadWd (w : World) (l : List CV) (e : Ending) (w' : World) : Prop :=
  Below w.heap.size w w' ∧ (if (readW l).1 = 0 then e = .returned (.tuple #[.map (some w.heap.size), .nilIface]) ∧ Wd w' w.heap.size (readW l).2 else e = .returned (.tuple #[.map none, errVal (readW l).1]))
theorem readwd_any (va : Value) (l : List CV) (w : World) (hl : Clss w va l) (hf : FormsAt w) (hsm : ∀ c ∈ l, SmallC c) (hn : l.length ≤ 1048576) :
    Calls Tryz.prog 22 #[va] w (ReadWd w l) := by
  refine (read_any va l w hl hf hsm hn).mono ?_
  rintro e w' ⟨hb, h⟩
  refine ⟨hb, ?_⟩
  by_cases h0 : (readW l).1 = 0
  · rw [if_pos h0] at h ⊢
    refine ⟨h.1, read_wd ?_ hsm h.2⟩
    obtain ⟨f, V, hV⟩ : ∃ f V, readW l = (f, V) := ⟨_, _, rfl⟩
    rw [hV] at h0 ⊢
    simp only at h0
    rw [h0]
  · rw [if_neg h0] at h ⊢
    exact h
end Go.Proofs.YtloeaihbnnnncaaGreatDoor.worlds
