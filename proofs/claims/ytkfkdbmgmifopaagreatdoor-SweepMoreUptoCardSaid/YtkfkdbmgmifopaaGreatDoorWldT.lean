/- SW1: the walk of SweepMore. Condition: the texts and lists are not great. -/
import Derived.Test.YtkfkdbmgmifopaaGreatDoorWldR
import Derived.Test.YtkfkdbmgmifopaaGreatDoorInts
set_option linter.unusedSimpArgs false
set_option linter.unusedVariables false
namespace Go.Proofs.YtkfkdbmgmifopaaGreatDoor.worlds
open Go.RowKit Go.Proofs.YtkfkdbmgmifopaaGreatDoor.lib Go.Proofs.YtkfkdbmgmifopaaGreatDoor.maps Go.Proofs.YtkfkdbmgmifopaaGreatDoor.classes Go.Proofs.YtkfkdbmgmifopaaGreatDoor.errs Go.Proofs.YtkfkdbmgmifopaaGreatDoor.descs Go.Proofs.YtkfkdbmgmifopaaGreatDoor.names Go.Proofs.YtkfkdbmgmifopaaGreatDoor.grow Go.Proofs.YtkfkdbmgmifopaaGreatDoor.ins

/-- an answer of sweep.Live, its error apart -/
theorem live_shape {w w' : World} {l : List CV} {H : List Th} {R : List Vl} {e : Ending} (h : LiveBy w l H R e w') : ∃ v z, e = .returned (.tuple #[v, errVal z]) ∧ Below w.heap.size w w' ∧
    ((z = 0 ∧ rootsF l H R = 0 ∧ ∃ bs, Done H R bs ∧ Sl w' v (placesL (false :: bs)).length 1 ((placesL (false :: bs)).map (.int .i64))) ∨ (z ≠ 0 ∧ v = .slice none 0 0)) := by
  unfold LiveBy at h
  by_cases h0 : rootsF l H R = 0
  · rw [if_pos h0] at h
    obtain ⟨v, bs, rfl, hd, ho⟩ := h
    exact ⟨v, 0, rfl, ho.below, .inl ⟨rfl, h0, bs, hd, ho.sl⟩⟩
  · rw [if_neg h0] at h
    obtain ⟨rfl, hb⟩ := h
    exact ⟨_, _, rfl, hb, .inr ⟨h0, rfl⟩⟩

/-- marks set at these places -/
def setAll (S : List Bool) (zs : List Int) : List Bool := zs.foldl (fun S z => S.set z.toNat true) S
theorem setAll_len (zs : List Int) : ∀ S, (setAll S zs).length = S.length := by
  induction zs with
  | nil => intro S; rfl
  | cons z zs ih => intro S; show (setAll (S.set z.toNat true) zs).length = _; rw [ih, List.length_set]
theorem setAll_snoc (S : List Bool) (zs : List Int) (z : Int) : setAll S (zs ++ [z]) = (setAll S zs).set z.toNat true := by
  unfold setAll; rw [List.foldl_append]; rfl
theorem setAll_is (zs : List Int) : ∀ (S : List Bool) (i : Nat), (∀ z ∈ zs, z.toNat < S.length) → (isM (setAll S zs) i ↔ isM S i ∨ ∃ z ∈ zs, z.toNat = i) := by
  induction zs with
  | nil => intro S i _; simp [setAll]
  | cons z zs ih =>
    intro S i h
    show isM (setAll (S.set z.toNat true) zs) i ↔ _
    rw [ih _ _ (fun y hy => by rw [List.length_set]; exact h y (List.mem_cons_of_mem _ hy)), isM_set (h z (List.mem_cons_self ..))]
    constructor
    · rintro ((rfl | h1) | ⟨y, hy, rfl⟩)
      · exact .inr ⟨z, List.mem_cons_self .., rfl⟩
      · exact .inl h1
      · exact .inr ⟨y, List.mem_cons_of_mem _ hy, rfl⟩
    · rintro (h1 | ⟨y, hy, rfl⟩)
      · exact .inl (.inr h1)
      · rcases List.mem_cons.1 hy with rfl | hy
        · exact .inl (.inl rfl)
        · exact .inr ⟨y, hy, rfl⟩
theorem places_is {S : List Bool} {i : Nat} : (∃ z ∈ placesL S, z.toNat = i) ↔ isM S i := by
  have e : placesL S = placesL (S.take S.length) := by rw [List.take_length]
  constructor
  · rintro ⟨z, hz, rfl⟩
    rw [e] at hz
    obtain ⟨i, rfl, _, h⟩ := mem_places hz
    exact h
  · intro h
    unfold isM at h
    have hi := (List.getElem?_eq_some_iff.1 h).1
    refine ⟨(i : Int), ?_, Int.toNat_natCast i⟩
    unfold placesL
    refine List.mem_map.2 ⟨i, List.mem_filter.2 ⟨List.mem_range.2 hi, ?_⟩, rfl⟩
    rw [List.getD_eq_getElem?_getD, h]; rfl
theorem marks_ext : ∀ {S T : List Bool}, S.length = T.length → (∀ i, isM S i ↔ isM T i) → S = T := by
  intro S T hl h
  refine List.ext_getElem hl fun i h1 h2 => ?_
  have := h i
  unfold isM at this
  rw [List.getElem?_eq_getElem h1, List.getElem?_eq_getElem h2] at this
  cases hs : S[i] <;> cases ht : T[i] <;> simp [hs, ht] at this ⊢
theorem place_lt {S : List Bool} {z : Int} (h : z ∈ placesL S) : 0 ≤ z ∧ z.toNat < S.length ∧ z < (S.length : Int) := by
  have e : placesL S = placesL (S.take S.length) := by rw [List.take_length]
  rw [e] at h
  obtain ⟨i, rfl, h1, _⟩ := mem_places h
  omega
/-- the union of what two lists of roots need -/
theorem more_of {H : List Th} {A B : List Vl} {qa qb cs : List Bool} (ha : Done H A qa) (hb : Done H B qb) (hc : Done H (A ++ B) cs) :
    setAll (setAll (List.replicate (H.length + 1) false) (placesL (false :: qa))) (placesL (false :: qb)) = false :: cs := by
  have la := ha.len; have lb := hb.len; have lc := hc.len
  refine marks_ext (by rw [setAll_len, setAll_len, List.length_replicate, List.length_cons]; omega) fun i => ?_
  have hno : ¬ isM (List.replicate (H.length + 1) false) i := fun h => by
    unfold isM at h
    rw [List.getElem?_replicate] at h
    split at h <;> simp at h
  have key : ∀ {R : List Vl} {q : List Bool}, Done H R q → (isM (false :: q) i ↔ Marks H R i) := fun {R q} hd => by
    cases i with
    | zero => exact ⟨fun h => by simp [isM] at h, fun h => absurd (no_zero h) (Nat.lt_irrefl _)⟩
    | succ i => unfold isM; rw [List.getElem?_cons_succ]; exact hd.is i
  rw [setAll_is _ _ _ (fun z hz => by rw [setAll_len, List.length_replicate]; have := (place_lt hz).2.1; rw [List.length_cons] at this; omega),
    setAll_is _ _ _ (fun z hz => by rw [List.length_replicate]; have := (place_lt hz).2.1; rw [List.length_cons] at this; omega),
    places_is, places_is, key ha, key hb, key hc, marks_both]
  constructor
  · rintro ((h | h) | h)
    · exact absurd h hno
    · exact .inl h
    · exact .inr h
  · rintro (h | h)
    · exact .inl (.inr h)
    · exact .inr h
theorem nil_not (z : Int) : errVal z = .nilIface ∨ errVal z = .iface 45 (.int .i64 z) := by
  unfold errVal
  split
  · exact .inl rfl
  · exact .inr rfl

set_option maxRecDepth 100000 in
set_option maxHeartbeats 16000000 in
theorem sweepmore_any (va vt vA vB : Value) (l : List CV) (H : List Th) (A B : List Vl) (w : World) (hl : Clss w va l) (hf : FormsAt w) (hsm : ∀ c ∈ l, SmallC c) (hn : l.length ≤ 1048576) (hH : Ths w vt H) (hs : SmallH H) (hm : H.length ≤ 1048576) (hA : Vls w vA A) (hB : Vls w vB B) (hal : A.length ≤ 1048576) (hbl : B.length ≤ 1048576) :
    Calls Tryz.prog 7 #[va, .agg #[vt], vA, vB] w fun e w' => e = .returned (.bool true) ∧ Below w.heap.size w w' := by
  obtain ⟨ah, ch, rfl⟩ := hH.sl.val
  obtain ⟨al, cl, rfl⟩ := hl.val
  obtain ⟨aA, cA, rfl⟩ := hA.val
  obtain ⟨aB, cB, rfl⟩ := hB.val
  obtain ⟨b1, hb1⟩ : ∃ b1, w.heap.size = b1 := ⟨_, rfl⟩
  obtain ⟨w1, hw1⟩ : ∃ w1, w.alloc (.cells #[.slice ah H.length ch] 25) = w1 := ⟨_, rfl⟩
  have HB1 : Hid (Below w.heap.size w w1) := hid (hw1 ▸ ext_alloc _ _)
  have hr1 : w1.heap[b1]? = some (.cells #[.slice ah H.length ch] 25 (0, 0)) := by rw [← hw1, ← hb1]; exact heap_alloc_new _ _
  have hlt1 := (Array.getElem?_eq_some_iff.1 hr1).1
  have HX : Hid (∀ u, Below w1.heap.size w1 u → u.cell? ⟨b1, 0, none⟩ = some (.slice ah H.length ch)) := hid (fun u hu => by
    have h := (hu.block _ hlt1).trans hr1
    rw [cell_of_row _ _ _ _ _ _ h]; rfl)
  have HL := hid hl; have HF := hid hf; have HSM := hid hsm; have HN := hid hn; have HH := hid hH; have HS := hid hs; have HM := hid hm; have HA := hid hA; have HB := hid hB; have HAL := hid hal; have HBL := hid hbl
  obtain ⟨AB, hAB⟩ : ∃ AB, A ++ B = AB := ⟨_, rfl⟩
  have HAB := hid hAB
  have HSW0 := hid (swept_any w1 (hf.below HB1.out))
  clear hl hf hsm hn hH hs hm hA hB hr1 hal hbl hAB
  go_enter Tryz.func7, Tryz.ntmps7
  go_wp2_with fail
  refine HSW0.out.mono ?_
  rintro e w2 ⟨rfl, hb2⟩
  have H12 := hid hb2
  have HB2 := hid (HB1.out.trans (hb2.mono HB1.out.size))
  have x0 := HX.out _ hb2
  clear hb2
  go_wp2_with fail
  refine (slive_any _ _ _ l H A w2 (HL.out.below HB2.out) (HF.out.below HB2.out) HSM.out HN.out (HH.out.below HB2.out) HS.out HM.out (HA.out.below HB2.out)).mono ?_
  intro e w3 h3
  obtain ⟨v3, z3, rfl, hb3, h3c⟩ := live_shape h3
  have HC3 := hid h3c
  have H13 := hid (H12.out.trans (hb3.mono H12.out.size))
  have HB3 := hid (HB2.out.trans (hb3.mono HB2.out.size))
  have x3 := HX.out _ H13.out
  clear h3 h3c hb3 x0
  go_wp2_with fail
  refine (slive_any _ _ _ l H B w3 (HL.out.below HB3.out) (HF.out.below HB3.out) HSM.out HN.out (HH.out.below HB3.out) HS.out HM.out (HB.out.below HB3.out)).mono ?_
  intro e w4 h4
  obtain ⟨v4, z4, rfl, hb4, h4c⟩ := live_shape h4
  have HC4 := hid h4c
  have H34 := hid hb4
  have H14 := hid (H13.out.trans (hb4.mono H13.out.size))
  have HB4 := hid (HB3.out.trans (hb4.mono HB3.out.size))
  clear h4 h4c hb4 x3
  obtain ⟨WD, hWD⟩ : ∃ WD, w4.drew = WD := ⟨_, rfl⟩
  have H4D : Hid (Below w4.heap.size w4 WD) := hid (hWD ▸ (Below.refl _ _).drew)
  have H1D := hid (H14.out.trans (H4D.out.mono H14.out.size))
  have HBWD := hid (HB4.out.trans (H4D.out.mono HB4.out.size))
  have H3D := hid (H34.out.trans (H4D.out.mono H34.out.size))
  have x4 := HX.out _ H1D.out
  obtain ⟨WE, hWE⟩ : ∃ WE, WD.alloc (.cells #[] 37) = WE := ⟨_, rfl⟩
  have HME : Hid (Out WD WE 37 2 (.slice (some ⟨WD.heap.size, 0, none⟩) 0 0) 0 []) := hid (hWE ▸ Out.made WD _ _)
  have HM1 : Hid (Below w1.heap.size w1 WE) := hid (hWE ▸ H1D.out.alloc H1D.out.size _)
  have HAE := hid ((HA.out.below HBWD.out).below HME.out.below)
  have HBD := hid (HB.out.below HBWD.out)
  go_wp2_with fail
  refine wp_region_s (fun u => u.cell? ⟨b1, 0, none⟩ = some (.slice ah H.length ch)) 7 (by kernel_rfl) ?_
  show Go.Proofs.YtkfkdbmgmifopaaGreatDoor.grow.wpAnyS _ _ _ _ _ _ _ _ _ w4.drew
  rw [hWD]
  refine s_calc 0 _ _ rfl (by kernel_rfl) (by kernel_rfl) (by kernel_rfl) (by kernel_rfl) (by decide) rfl (fun c a' w' h => ⟨(putS_defers _ _ _).symm.trans h.1, h.2⟩) (fun _ => x4) (fun u => by go_simp; rfl) ?_
  simp only [List.getElem_toArray, List.getElem_cons_zero, List.getElem_cons_succ, Act.put, List.setIfInBounds_toArray, List.set_cons_zero, List.set_cons_succ]
  refine s_take 1 _ _ rfl (by kernel_rfl) (by kernel_rfl) (by kernel_rfl) (by kernel_rfl) (by kernel_rfl) (by decide) rfl (fun c a' w' h => ⟨(putS_defers _ _ _).symm.trans h.1, h.2⟩) (fun _ => x4) (fun u hu => by go_simp; rfl) ?_
  simp only [List.getElem_toArray, List.getElem_cons_zero, List.getElem_cons_succ, Act.put, List.setIfInBounds_toArray, List.set_cons_zero, List.set_cons_succ]
  refine s_calc 3 _ _ rfl (by kernel_rfl) (by kernel_rfl) (by kernel_rfl) (by kernel_rfl) (by decide) rfl (fun c a' w' h => ⟨(putS_defers _ _ _).symm.trans h.1, h.2⟩) (fun _ => x4) (fun u => by go_simp; rfl) ?_
  simp only [List.getElem_toArray, List.getElem_cons_zero, List.getElem_cons_succ, Act.put, List.setIfInBounds_toArray, List.set_cons_zero, List.set_cons_succ]
  refine s_calc 5 _ _ rfl (by kernel_rfl) (by kernel_rfl) (by kernel_rfl) (by kernel_rfl) (by decide) rfl (fun c a' w' h => ⟨(putS_defers _ _ _).symm.trans h.1, h.2⟩) (fun _ => x4) (fun u => by go_simp; rfl) ?_
  simp only [List.getElem_toArray, List.getElem_cons_zero, List.getElem_cons_succ, Act.put, List.setIfInBounds_toArray, List.set_cons_zero, List.set_cons_succ]
  refine s_only 2 _ rfl (by kernel_rfl) ?_
  go_simp
  refine ⟨fun _ => HX.out _ HM1.out, ?_⟩
  try rw [hWE]
  try simp only [List.getElem_toArray, List.getElem_cons_zero, List.getElem_cons_succ, Act.put, List.setIfInBounds_toArray, List.set_cons_zero, List.set_cons_succ]
  refine s_only 4 _ rfl (by kernel_rfl) ?_
  refine step_append_src WD WE rfl _ _ 26 rfl 37 (.agg #[.int .i64 0, .int .i64 0]) 2 16 A.length Tryz.underlying26 infoVl rfl (by decide) _ _ _ HME.out rfl _ _ HAE.out rfl vl_one (by have := HAL.out; omega) (by have := HAL.out; omega) ?_
  intro v6 w6 ho6 hg6
  have HO6 : Hid (Out WD w6 37 2 v6 A.length (A.flatMap Vl.cells)) := hid (by simpa using ho6)
  clear ho6 hg6
  refine ⟨fun _ => HX.out _ (H1D.out.trans (HO6.out.below.mono H1D.out.size)), ?_⟩
  try simp only [List.getElem_toArray, List.getElem_cons_zero, List.getElem_cons_succ, Act.put, List.setIfInBounds_toArray, List.set_cons_zero, List.set_cons_succ]
  refine s_only 6 _ rfl (by kernel_rfl) ?_
  refine step_append_src WD w6 rfl _ _ 26 rfl 37 (.agg #[.int .i64 0, .int .i64 0]) 2 16 B.length Tryz.underlying26 infoVl rfl (by decide) _ _ _ HO6.out rfl _ _ (HBD.out.below HO6.out.below) rfl vl_one (by have := HAL.out; have := HBL.out; omega) (by have := HAL.out; have := HBL.out; omega) ?_
  intro v7 w7 ho7 hg7
  have HO7 : Hid (Vls w7 v7 AB) := hid (by
    have := ho7.sl
    rw [← List.length_append, ← List.flatMap_append, HAB.out] at this
    exact this)
  have HB7 := hid (HBWD.out.trans (ho7.below.mono HBWD.out.size))
  have H17 := hid (H1D.out.trans (ho7.below.mono H1D.out.size))
  have HD7 := hid (ho7.below)
  obtain ⟨a7, c7, hv7⟩ := HO7.out.val
  subst hv7
  clear ho7 hg7
  refine ⟨fun _ => HX.out _ H17.out, ?_⟩
  try simp only [List.getElem_toArray, List.getElem_cons_zero, List.getElem_cons_succ, Act.put, List.setIfInBounds_toArray, List.set_cons_zero, List.set_cons_succ]
  refine s_only 7 _ rfl (by kernel_rfl) ?_
  go_simp
  refine (slive_any _ _ _ l H AB w7 (HL.out.below HB7.out) (HF.out.below HB7.out) HSM.out HN.out (HH.out.below HB7.out) HS.out HM.out HO7.out).mono ?_
  intro e w8 h8
  obtain ⟨v8, z8, rfl, hb8, h8c⟩ := live_shape h8
  have HC8 := hid h8c
  have HB8 := hid (HB7.out.trans (hb8.mono HB7.out.size))
  have H18 := hid (H17.out.trans (hb8.mono H17.out.size))
  have HD8 := hid (HD7.out.trans (hb8.mono HD7.out.size))
  clear h8 h8c hb8
  refine ⟨fun h => absurd h (by decide), ?_⟩
  try simp only [List.getElem_toArray, List.getElem_cons_zero, List.getElem_cons_succ, Act.put, List.setIfInBounds_toArray, List.set_cons_zero, List.set_cons_succ]
  refine s_calc 8 _ _ rfl (by kernel_rfl) (by kernel_rfl) (by kernel_rfl) (by kernel_rfl) (by decide) rfl (fun c a' w' h => ⟨(putS_defers _ _ _).symm.trans h.1, h.2⟩) (fun h => absurd h (by decide)) (fun u => by go_simp; rfl) ?_
  simp only [List.getElem_toArray, List.getElem_cons_zero, List.getElem_cons_succ, Act.put, List.setIfInBounds_toArray, List.set_cons_zero, List.set_cons_succ]
  refine s_calc 9 _ _ rfl (by kernel_rfl) (by kernel_rfl) (by kernel_rfl) (by kernel_rfl) (by decide) rfl (fun c a' w' h => ⟨(putS_defers _ _ _).symm.trans h.1, h.2⟩) (fun h => absurd h (by decide)) (fun u => by go_simp; rfl) ?_
  simp only [List.getElem_toArray, List.getElem_cons_zero, List.getElem_cons_succ, Act.put, List.setIfInBounds_toArray, List.set_cons_zero, List.set_cons_succ]
  refine s_calc 10 _ _ rfl (by kernel_rfl) (by kernel_rfl) (by kernel_rfl) (by kernel_rfl) (by decide) rfl (fun c a' w' h => ⟨(putS_defers _ _ _).symm.trans h.1, h.2⟩) (fun h => absurd h (by decide)) (fun u => by go_simp; rfl) ?_
  simp only [List.getElem_toArray, List.getElem_cons_zero, List.getElem_cons_succ, Act.put, List.setIfInBounds_toArray, List.set_cons_zero, List.set_cons_succ]
  refine s_calc 11 _ _ rfl (by kernel_rfl) (by kernel_rfl) (by kernel_rfl) (by kernel_rfl) (by decide) rfl (fun c a' w' h => ⟨(putS_defers _ _ _).symm.trans h.1, h.2⟩) (fun h => absurd h (by decide)) (fun u => by go_simp; rfl) ?_
  simp only [List.getElem_toArray, List.getElem_cons_zero, List.getElem_cons_succ, Act.put, List.setIfInBounds_toArray, List.set_cons_zero, List.set_cons_succ]
  refine s_calc 12 _ _ rfl (by kernel_rfl) (by kernel_rfl) (by kernel_rfl) (by kernel_rfl) (by decide) rfl (fun c a' w' h => ⟨(putS_defers _ _ _).symm.trans h.1, h.2⟩) (fun h => absurd h (by decide)) (fun u => by go_simp; rfl) ?_
  simp only [List.getElem_toArray, List.getElem_cons_zero, List.getElem_cons_succ, Act.put, List.setIfInBounds_toArray, List.set_cons_zero, List.set_cons_succ]
  refine s_end (by kernel_rfl) ?_
  rcases HC3.out with ⟨h30, hr3, qa, hda, hsa⟩ | ⟨h30, hv3⟩
  · rcases HC4.out with ⟨h40, hr4, qb, hdb, hsb⟩ | ⟨h40, hv4⟩
    · rcases HC8.out with ⟨h80, hr8, qc, hdc, hsc⟩ | ⟨h80, hv8⟩
      · subst h30 h40 h80
        rw [show errVal 0 = .nilIface from rfl]
        have HMO := hid (more_of hda hdb (by rw [HAB.out]; exact hdc))
        obtain ⟨hn50, _, _, _⟩ := roots_ok hr3
        have HQA : Hid (∀ z ∈ placesL (false :: qa), 0 ≤ z ∧ z.toNat < H.length + 1 ∧ z < ((H.length + 1 : Nat) : Int)) := hid (fun z hz => by have := place_lt hz; have hl := hda.len; rw [List.length_cons, hl] at this; exact this)
        have HQB : Hid (∀ z ∈ placesL (false :: qb), 0 ≤ z ∧ z.toNat < H.length + 1 ∧ z < ((H.length + 1 : Nat) : Int)) := hid (fun z hz => by have := place_lt hz; have hl := hdb.len; rw [List.length_cons, hl] at this; exact this)
        have HPC : Hid ((placesL (false :: qc)).length ≤ 51) := hid (by
          have h1 := places_len (false :: qc) (false :: qc).length (Nat.le_refl _)
          rw [List.take_length] at h1
          have h2 := cnt_le (false :: qc)
          rw [List.length_cons, hdc.len] at h2
          omega)
        have hplen : ∀ q, Done H A q ∨ Done H B q → (placesL (false :: q)).length ≤ 51 := fun q hq => by
          have h1 := places_len (false :: q) (false :: q).length (Nat.le_refl _)
          rw [List.take_length] at h1
          have h2 := cnt_le (false :: q)
          rw [List.length_cons, show q.length = H.length from by rcases hq with h | h <;> exact h.len] at h2
          omega
        have hpa := hplen qa (.inl hda)
        have hpb := hplen qb (.inr hdb)
        clear hplen
        generalize placesL (false :: qa) = PA at HMO HQA hsa hpa
        generalize placesL (false :: qb) = PB at HMO HQB hsb hpb
        generalize false :: qc = TC at HMO hsc HPC
        have H38 := hid (H3D.out.trans (HD8.out.mono H3D.out.size))
        have H48 := hid (H4D.out.trans (HD8.out.mono H4D.out.size))
        have HSA := hid (hsa.below H38.out)
        have HSB := hid (hsb.below H48.out)
        have HSC := hid hsc
        obtain ⟨a3, c3, rfl⟩ := hsa.val
        obtain ⟨a4, c4, rfl⟩ := hsb.val
        obtain ⟨a8, c8, rfl⟩ := hsc.val
        obtain ⟨n, hnn⟩ : ∃ n, H.length + 1 = n := ⟨_, rfl⟩
        rw [hnn] at HQA HQB HMO
        have hn1 : (H.length : Int) + 1 = (n : Int) := by omega
        have hnm : n ≤ 51 := by omega
        have x8 := HX.out _ H18.out
        obtain ⟨M, hM⟩ : ∃ M, madeCells #[.bool false] n = M := ⟨_, rfl⟩
        obtain ⟨si, hsi, hz, hsz, hby⟩ := info_parts (show (Tryz.prog.info? 4).map (fun i => (i.zero, i.size, i.bytes)) = some (some (.bool false), 1, 1) by kernel_rfl)
        have hmk : (Instr.makeSlice 52 (.int .i64 (n : Int)) (.int .i64 (n : Int))).run Tryz.prog w8 = .ok (.slice (some ⟨w8.heap.size, 0, none⟩) n n) (w8.alloc (.cells M 4)) := by
          have := run_makeSlice (P := Tryz.prog) w8 52 4 si _ Tryz.underlying52 hsi hz .i64 .i64 (n : Int) (n : Int) (by omega) (by omega) (by rw [hsz]; simp; omega) (by rw [hby]; omega) (by omega)
          rw [hsz] at this
          simp only [Int.toNat_natCast, Nat.mul_one] at this
          rw [show madeCells (Value.bool false).cells n = M from hM] at this
          exact this
        have HR0 : Hid (Out w8 (w8.alloc (.cells M 4)) 4 1 (.slice (some ⟨w8.heap.size, 0, none⟩) n n) n ((List.replicate n false).map .bool)) := hid (by
          have h := Out.row w8 (.bool false) 4 n (by unfold maxLen; omega)
          rw [← hM, madeCells_one, List.map_replicate]
          exact h)
        obtain ⟨W9, hW9⟩ : ∃ W9, w8.alloc (.cells M 4) = W9 := ⟨_, rfl⟩
        obtain ⟨g9, hg9⟩ : ∃ g9, w8.heap.size = g9 := ⟨_, rfl⟩
        rw [hW9, hg9] at hmk HR0
        clear hM hsi hz hsz hby hr3 hr4 hr8 hda hdb hdc hsa hsb hsc hnn
        go_wp2_with fail
        go_loopw [17] (fun v wr => ∃ k : Nat, k ≤ PA.length ∧ v = .int .i64 (k : Int) ∧ Hid (Out w8 wr 4 1 (.slice (some ⟨g9, 0, none⟩) n n) n ((setAll (List.replicate n false) (PA.take k)).map .bool))) (fun v _ => PA.length - (intOf v).toNat)
        case atStart => exact ⟨0, Nat.zero_le _, rfl, HR0⟩
        case round =>
          obtain ⟨k, hk, rfl, HO⟩ := hrel
          clear HR0
          obtain ⟨wb, hwb⟩ : ∃ wb, wb = wr := ⟨_, rfl⟩
          subst hwb
          have hk0 : (0 : Int) ≤ (k : Int) := by omega
          by_cases hlt : k < PA.length
          · have hk1 : (k : Int) < (PA.length : Int) := by omega
            obtain ⟨bb, off, hab, hc0⟩ := Sl.ints (HSA.out.below HO.out.below) hlt
            cases hab
            have hz := HQA.out _ (List.getElem_mem hlt)
            have HTS : Hid (setAll (List.replicate n false) (PA.take (k + 1)) = (setAll (List.replicate n false) (PA.take k)).set PA[k].toNat true) := hid (by rw [List.take_succ_eq_append_getElem hlt, setAll_snoc])
            generalize PA[k] = z at hc0 hz HTS
            obtain ⟨p, rfl⟩ : ∃ p : Nat, z = (p : Int) := ⟨z.toNat, by omega⟩
            rw [Int.toNat_natCast] at HTS
            have hp0 : (0 : Int) ≤ (p : Int) := by omega
            have hp1 : (p : Int) < (n : Int) := hz.2.2
            obtain ⟨g, cap, u, hv, hg, hcu, hfz, hset⟩ := HO.out.store (i := p) (by omega)
            simp only [Value.slice.injEq, Option.some.injEq, Addr.mk.injEq, and_true, true_and] at hv
            obtain ⟨rfl, rfl⟩ := hv
            have HN : Hid (Out w8 (wb.setCell ⟨g9, p, none⟩ (.bool true)) 4 1 (.slice (some ⟨g9, 0, none⟩) n n) n ((setAll (List.replicate n false) (PA.take (k + 1))).map .bool)) := hid (by
              rw [HTS.out, List.map_set]; exact hset _)
            clear hset hz hg
            go_wp2_with fail
            go_roundw
            case rel => exact ⟨k + 1, by omega, by simp, HN⟩
            case measure => simp [intOf]; omega
          · obtain rfl : k = PA.length := by omega
            have HO1 : Hid (Out w8 wb 4 1 (.slice (some ⟨g9, 0, none⟩) n n) n ((setAll (List.replicate n false) PA).map .bool)) := hid (by have := HO.out; rwa [List.take_length] at this)
            clear HO hlt
            generalize setAll (List.replicate n false) PA = X1 at HO1 HMO
            go_wp2_with fail
            go_loopw [18] (fun v wr => ∃ k : Nat, k ≤ PB.length ∧ v = .int .i64 (k : Int) ∧ Hid (Out w8 wr 4 1 (.slice (some ⟨g9, 0, none⟩) n n) n ((setAll X1 (PB.take k)).map .bool))) (fun v _ => PB.length - (intOf v).toNat)
            case atStart => exact ⟨0, Nat.zero_le _, rfl, HO1⟩
            case round =>
              obtain ⟨k, hk, rfl, HO⟩ := hrel
              clear HO1
              obtain ⟨wb, hwb⟩ : ∃ wb, wb = wr := ⟨_, rfl⟩
              subst hwb
              have hk0 : (0 : Int) ≤ (k : Int) := by omega
              by_cases hlt : k < PB.length
              · have hk1 : (k : Int) < (PB.length : Int) := by omega
                obtain ⟨bb, off, hab, hc0⟩ := Sl.ints (HSB.out.below HO.out.below) hlt
                cases hab
                have hz := HQB.out _ (List.getElem_mem hlt)
                have HTS : Hid (setAll X1 (PB.take (k + 1)) = (setAll X1 (PB.take k)).set PB[k].toNat true) := hid (by rw [List.take_succ_eq_append_getElem hlt, setAll_snoc])
                generalize PB[k] = z at hc0 hz HTS
                obtain ⟨p, rfl⟩ : ∃ p : Nat, z = (p : Int) := ⟨z.toNat, by omega⟩
                rw [Int.toNat_natCast] at HTS
                have hp0 : (0 : Int) ≤ (p : Int) := by omega
                have hp1 : (p : Int) < (n : Int) := hz.2.2
                obtain ⟨g, cap, u, hv, hg, hcu, hfz, hset⟩ := HO.out.store (i := p) (by omega)
                simp only [Value.slice.injEq, Option.some.injEq, Addr.mk.injEq, and_true, true_and] at hv
                obtain ⟨rfl, rfl⟩ := hv
                have HN : Hid (Out w8 (wb.setCell ⟨g9, p, none⟩ (.bool true)) 4 1 (.slice (some ⟨g9, 0, none⟩) n n) n ((setAll X1 (PB.take (k + 1))).map .bool)) := hid (by
                  rw [HTS.out, List.map_set]; exact hset _)
                clear hset hz hg
                go_wp2_with fail
                go_roundw
                case rel => exact ⟨k + 1, by omega, by simp, HN⟩
                case measure => simp [intOf]; omega
              · obtain rfl : k = PB.length := by omega
                have HO2 : Hid (Out w8 wb 4 1 (.slice (some ⟨g9, 0, none⟩) n n) n (TC.map .bool)) := hid (by have := HO.out; rw [List.take_length, HMO.out] at this; exact this)
                have HTN : Hid (TC.length = n) := hid (by have := HO2.out.own.1; rw [List.length_map, Nat.mul_one] at this; exact this)
                clear HO hlt
                have HPL := hid (places_any (.slice (some ⟨g9, 0, none⟩) n n) TC wb (by rw [HTN.out]; exact HO2.out.sl) (by have := HTN.out; omega))
                go_wp2_with fail
                refine HPL.out.mono ?_
                rintro e w10 ⟨v10, rfl, ho10⟩
                have HS10 := hid ho10.sl
                have H810 := hid (HO2.out.below.trans (ho10.below.mono HO2.out.below.size))
                have HB10 := hid (HB8.out.trans (H810.out.mono HB8.out.size))
                clear ho10
                go_wp2_with fail
                refine (ints.ints_any _ _ (placesL TC) (placesL TC) w10 (HSC.out.below H810.out) HS10.out (by have := HPC.out; omega)).mono ?_
                rintro e w11 ⟨rfl, hb11⟩
                have HB11 := hid (HB10.out.trans (hb11.mono HB10.out.size))
                rw [show decide (placesL TC = placesL TC) = true from decide_eq_true rfl]
                clear hb11
                go_wp2
                go_ret
                exact ⟨by first | rfl | simp, HB11.out⟩
      · have HEV : Hid (errVal z8 = .iface 45 (.int .i64 z8)) := hid (by unfold errVal; rw [if_neg h80])
        subst h30 h40
        rw [HEV.out, show errVal 0 = .nilIface from rfl]
        go_wp2
        go_ret
        exact ⟨by first | rfl | simp, by first | exact HB8.out | exact hb1 ▸ HB8.out⟩
    · have HEV : Hid (errVal z4 = .iface 45 (.int .i64 z4)) := hid (by unfold errVal; rw [if_neg h40])
      subst h30
      rw [HEV.out, show errVal 0 = .nilIface from rfl]
      go_wp2
      go_ret
      exact ⟨by first | rfl | simp, by first | exact HB8.out | exact hb1 ▸ HB8.out⟩
  · have HEV : Hid (errVal z3 = .iface 45 (.int .i64 z3)) := hid (by unfold errVal; rw [if_neg h30])
    rw [HEV.out]
    go_wp2
    go_ret
    exact ⟨by first | rfl | simp, by first | exact HB8.out | exact hb1 ▸ HB8.out⟩
end Go.Proofs.YtkfkdbmgmifopaaGreatDoor.worlds
