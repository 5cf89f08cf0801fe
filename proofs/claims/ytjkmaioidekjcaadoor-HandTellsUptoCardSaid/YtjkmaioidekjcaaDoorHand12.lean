/- Handles: the laws' own first look (plus, handed); the law HandTells' walk. Condition: the handle is not too great, its texts are not long. -/
import Derived.Test.YtjkmaioidekjcaaDoorHand11
import Derived.Test.YtjkmaioidekjcaaDoorErr
import Derived.Test.YtjkmaioidekjcaaDoorRet
set_option linter.unusedSimpArgs false
set_option linter.unusedVariables false
namespace Go.Proofs.YtjkmaioidekjcaaDoor.hands
open Go.RowKit Go.Proofs.YtjkmaioidekjcaaDoor.lib Go.Proofs.YtjkmaioidekjcaaDoor.errs Go.Proofs.YtjkmaioidekjcaaDoor.names Go.Proofs.YtjkmaioidekjcaaDoor.descs Go.Proofs.YtjkmaioidekjcaaDoor.mtypes

set_option maxRecDepth 100000 in
set_option maxHeartbeats 4000000 in
theorem plus_any (w : World) : Calls Tryd.prog 24 #[] w fun e w' => e = .returned (.agg #[.int .i64 3, .string { data := #[73] }, .int .i64 1, .slice none 0 0, .slice none 0 0]) ∧ Below w.heap.size w w' := by
  obtain ⟨W1, hW1⟩ : ∃ W, w.alloc (.cells #[.int .i64 0, .string { data := #[] }, .int .i64 0, .slice none 0 0, .slice none 0 0] 25) = W := ⟨_, rfl⟩
  have HR1 : Hid (W1.heap[w.heap.size]? = some (.cells #[.int .i64 0, .string { data := #[] }, .int .i64 0, .slice none 0 0, .slice none 0 0] 25 (0, 0))) := hid (by rw [← hW1]; exact heap_alloc_new _ _)
  have HB1 : Hid (Below w.heap.size w W1) := hid (hW1 ▸ ext_alloc _ _)
  have HB : Hid (Below w.heap.size w (W1.setRow w.heap.size #[.int .i64 3, .string { data := #[73] }, .int .i64 1, .slice none 0 0, .slice none 0 0])) := hid (below_setRow HB1.out (Nat.le_refl _) _)
  go_enter Tryd.func24, Tryd.ntmps24
  go_wp2_with (refine wpList_store_row rfl 25 (.tmp 0) (.tmp 1) rfl w.heap.size _ rfl rfl 25 _ HR1.out (by kernel_rfl) rfl (by simp [Value.oneCell']) ?_)
  exact bodyPost_ret (results_cell_row rfl _ _ w.heap.size _ _ _ _ rfl (setRow_heap W1 w.heap.size _ _ _ _ HR1.out) Tryd.underlying25 rfl (by kernel_rfl)) rfl ⟨rfl, HB.out⟩

/-- the handle that handed looks at -/
def sample (g : Nat) : Nd := ⟨5, { data := #[] }, 1, .slice none 0 0, .slice (some ⟨g, 0, none⟩) 2 2, [], .cons 3 { data := #[73] } 1 (.slice none 0 0) (.slice none 0 0) [] .nil (.cons 1 { data := #[73] } 5 (.slice none 0 0) (.slice none 0 0) [] .nil .nil)⟩
theorem sample_short (g : Nat) : ShortN (sample g) := ⟨show (0 : Nat) ≤ 10000000 by decide, show (1 : Nat) ≤ 10000000 by decide, trivial, show (1 : Nat) ≤ 10000000 by decide, trivial, trivial⟩
theorem sl_none (w : World) : Sl w (.slice none 0 0) 0 1 [] := ⟨rfl, none, 0, rfl, Nat.le_refl _, .inl rfl⟩
theorem sl_none5 (w : World) : Sl w (.slice none 0 0) 0 5 [] := ⟨rfl, none, 0, rfl, Nat.le_refl _, .inl rfl⟩
theorem leaf_type {k : Int} {t : List UInt8} {a : Int} (ats : List Int) (hk : k = 1 ∨ k = 2 ∨ k = 3) (h : leafF k t a = 0) : nodeType k t a ats [] = (0, makeText (if k = 1 then [] else if k = 2 ∨ a = 12 then [t] else [t, if 9 ≤ a ∧ a ≤ 11 then [73] else t]) t) := by
  rw [node_one t a ats (by rcases hk with rfl | rfl | rfl <;> rfl) (by rcases hk with rfl | rfl | rfl <;> rfl)]
  unfold oneType leafS
  simp only
  rw [h, if_pos rfl, leafT_make]
theorem sample_type (g : Nat) : typeW (sample g) = (0, [40, 73, 41, 73]) := by
  have h1 : nodeType 3 [73] 1 [] [] = (0, makeText [[73], [73]] [73]) := leaf_type [] (by decide) (by decide)
  have h2 : nodeType 1 [73] 5 [] [] = (0, makeText [] [73]) := leaf_type [] (by decide) (by decide)
  have h3 : types (sample g).subs = [(0, makeText [[73], [73]] [73]), (0, makeText [] [73])] := by
    show [nodeType 3 [73] 1 [] [], nodeType 1 [73] 5 [] []] = _
    rw [h1, h2]
  have m1 : methodOf (makeText [[73], [73]] [73]) = some ([[73], [73]], [73]) := method_make (by decide)
  have m2 : methodOf (makeText [] [73]) = some ([], [73]) := method_make (by decide)
  have h4 : typeN (sample g) = (0, [40, 73, 41, 73]) := by
    show nodeType 5 [] 1 [] (types (sample g).subs) = _
    rw [h3, node_one _ _ _ (by decide) (by rfl)]
    simp only [oneType]
    rw [if_neg (by decide), if_neg (by decide), bind_drop m1 m2 (by decide)]
    unfold dropOf
    rw [m1]
    decide
  unfold typeW
  rw [if_neg (by show ¬ 30 < 3; decide), h4]

set_option maxRecDepth 100000 in
set_option maxHeartbeats 4000000 in
theorem handed_any (w : World) : Calls Tryd.prog 8 #[] w fun e w' => e = .returned (.bool true) ∧ Below w.heap.size w w' := by
  have g1 : (bs [40, 73, 41, 73]).toList = [40, 73, 41, 73] := by rw [ByteArray.toList_eq]; rfl
  go_enter Tryd.func8, Tryd.ntmps8
  go_wp2_with fail
  refine (plus_any _).mono ?_
  rintro e w1 ⟨rfl, hb1⟩
  have HB1 := hid hb1
  clear hb1
  have HB2 : Hid (Below w.heap.size w (w1.alloc (.cells #[.int .i64 3, .string { data := #[73] }, .int .i64 1, .slice none 0 0, .slice none 0 0, .int .i64 1, .string { data := #[73] }, .int .i64 5, .slice none 0 0, .slice none 0 0] 25))) := hid (HB1.out.alloc HB1.out.size _)
  have HNA : Hid (NAt (w1.alloc (.cells #[.int .i64 3, .string { data := #[73] }, .int .i64 1, .slice none 0 0, .slice none 0 0, .int .i64 1, .string { data := #[73] }, .int .i64 5, .slice none 0 0, .slice none 0 0] 25)) (sample w1.heap.size)) := hid
    ⟨⟨sl_none _, Sl.lit w1 #[.int .i64 3, .string { data := #[73] }, .int .i64 1, .slice none 0 0, .slice none 0 0, .int .i64 1, .string { data := #[73] }, .int .i64 5, .slice none 0 0, .slice none 0 0] 25 2 5 rfl⟩, ⟨sl_none _, sl_none5 _⟩, trivial, ⟨sl_none _, sl_none5 _⟩, trivial, trivial⟩
  go_wp2_with fail
  refine (type_any (sample w1.heap.size) _ HNA.out (sample_short _) (by show 3 ≤ _; decide)).mono ?_
  rw [sample_type]
  rintro e w3 ⟨rfl, hb3⟩
  have HB3 := hid (HB2.out.trans (hb3.mono HB2.out.size))
  clear hb3
  rw [show errVal (0, [40, 73, 41, 73]).1 = .nilIface from rfl]
  go_wp2
  go_ret
  exact ⟨rfl, HB3.out⟩

set_option maxRecDepth 100000 in
set_option maxHeartbeats 4000000 in
theorem handtells_any (x : Nd) (w : World) (hx : NAt w x) (hS : ShortN x) (hB : cnt x ≤ 1000000000000) :
    Calls Tryd.prog 3 #[.agg #[.int .i64 x.k, .string x.t, .int .i64 x.a, x.va, x.vs]] w fun e w' => e = .returned (.bool true) ∧ Below w.heap.size w w' := by
  have HT := hid (fun u (hu : Below w.heap.size w u) => type_any x u (hx.below hu) hS hB)
  have HO := hid (fun u (hu : Below w.heap.size w u) => typeOf_any x u (hx.below hu) hS hB)
  have HZ := hid (fun u (hu : Below w.heap.size w u) => size_any x u (hx.below hu) hS hB)
  have HC := hid (fun u (hu : Below w.heap.size w u) => rsize_any (cnt x) x u (Nat.le_refl _) (hx.below hu) hB)
  have HSM := hid (fun h => (typeW_small (x := x) h).1)
  obtain ⟨a1, c1, e1⟩ := hx.1.1.val
  obtain ⟨a2, c2, e2⟩ := hx.1.2.val
  obtain ⟨k, hk⟩ : ∃ q, x.k = q := ⟨_, rfl⟩
  obtain ⟨t, ht⟩ : ∃ q, x.t = q := ⟨_, rfl⟩
  obtain ⟨a, ha⟩ : ∃ q, x.a = q := ⟨_, rfl⟩
  obtain ⟨n1, hn1⟩ : ∃ q, x.ats.length = q := ⟨_, rfl⟩
  obtain ⟨n2, hn2⟩ : ∃ q, (nodes x.subs).length = q := ⟨_, rfl⟩
  rw [hn1] at e1
  rw [hn2] at e2
  obtain ⟨R, hR⟩ : ∃ R, typeW x = R := ⟨_, rfl⟩
  obtain ⟨c, hc⟩ : ∃ q, cnt x = q := ⟨_, rfl⟩
  obtain ⟨sz, hsz⟩ : ∃ q, sizeW x = q := ⟨_, rfl⟩
  have HSZ : Hid (sz = if R.1 = 0 then (c : Int) else 0) := hid (by rw [← hsz, ← hR, ← hc]; rfl)
  simp only [hk, ht, ha, e1, e2] at HT HC HO HZ ⊢
  simp only [hc, hR, hsz] at HC HT HSM HO HZ ⊢
  unfold Go.Proofs.YtjkmaioidekjcaaDoor.mtypes.Said at HO
  unfold Go.Proofs.YtjkmaioidekjcaaDoor.mtypes.Told at HT
  obtain ⟨z, hz⟩ : ∃ z, R.1 = z := ⟨_, rfl⟩
  obtain ⟨S, hS⟩ : ∃ S, bs R.2 = S := ⟨_, rfl⟩
  simp only [hz, hS] at HC HT HSM HO HZ HSZ
  clear hk ht ha hn1 hn2 e1 e2 hc hx hB hR hsz hz hS
  obtain ⟨X1, hX1⟩ : ∃ X1, w.alloc (.cells #[.int .i64 k, .string t, .int .i64 a, .slice a1 n1 c1, .slice a2 n2 c2] 25) = X1 := ⟨_, rfl⟩
  have HB1 : Hid (Below w.heap.size w X1) := hid (hX1 ▸ ext_alloc _ _)
  have HLT : Hid (w.heap.size < X1.heap.size) := hid (by rw [← hX1]; simp)
  have HXR : Hid (X1.heap[w.heap.size]? = some (.cells #[.int .i64 k, .string t, .int .i64 a, .slice a1 n1 c1, .slice a2 n2 c2] 25 (0, 0))) := hid (by rw [← hX1]; exact heap_alloc_new _ _)
  have HX : Hid (∀ u, Below X1.heap.size X1 u → u.cell? ⟨w.heap.size, 0, none⟩ = some (.int .i64 k) ∧ u.cell? ⟨w.heap.size, 1, none⟩ = some (.string t) ∧ u.cell? ⟨w.heap.size, 2, none⟩ = some (.int .i64 a) ∧ u.cell? ⟨w.heap.size, 3, none⟩ = some (.slice a1 n1 c1) ∧ u.cell? ⟨w.heap.size, 4, none⟩ = some (.slice a2 n2 c2)) := hid (fun u hu => by
    have h := (hu.block _ HLT.out).trans HXR.out
    refine ⟨?_, ?_, ?_, ?_, ?_⟩ <;> (rw [cell_of_row _ _ _ _ _ _ h]; rfl))
  go_enter Tryd.func3, Tryd.ntmps3
  go_wp2_with fail
  refine (handed_any _).mono ?_
  rintro e w2 ⟨rfl, hb2⟩
  have H12 := hid hb2
  have HB2 := hid (HB1.out.trans (hb2.mono HB1.out.size))
  obtain ⟨x0, x1, x2, x3, x4⟩ := HX.out _ hb2
  clear hb2
  go_wp2_with fail
  refine (HO.out _ HB2.out).mono ?_
  rintro e w3 ⟨rfl, hb3⟩
  have H13 := hid (H12.out.trans (hb3.mono H12.out.size))
  have HB3 := hid (HB2.out.trans (hb3.mono HB2.out.size))
  obtain ⟨x0, x1, x2, x3, x4⟩ := HX.out _ H13.out
  clear hb3
  go_wp2_with fail
  refine (HT.out _ HB3.out).mono ?_
  rintro e w4 ⟨rfl, hb4⟩
  have H14 := hid (H13.out.trans (hb4.mono H13.out.size))
  have HB4 := hid (HB3.out.trans (hb4.mono HB3.out.size))
  obtain ⟨x0, x1, x2, x3, x4⟩ := HX.out _ H14.out
  clear hb4
  go_wp2_with fail
  refine (HZ.out _ HB4.out).mono ?_
  rintro e w5 ⟨rfl, hb5⟩
  have H15 := hid (H14.out.trans (hb5.mono H14.out.size))
  have HB5 := hid (HB4.out.trans (hb5.mono HB4.out.size))
  obtain ⟨x0, x1, x2, x3, x4⟩ := HX.out _ H15.out
  clear hb5
  go_wp2_with fail
  refine (error_same z _).mono ?_
  rintro e we ⟨rfl, rfl⟩
  go_wp2_with fail
  refine (error_same z _).mono ?_
  rintro e we ⟨rfl, rfl⟩
  by_cases h0 : z = 0
  · subst h0
    have HE : Hid (sz = (c : Int)) := hid (by rw [HSZ.out, if_pos rfl])
    go_wp2_with fail
    refine (HC.out _ HB5.out).mono ?_
    rintro e w6 ⟨r, rfl, hr, hb6⟩
    have HR : Hid (r = sz) := hid (by rw [HE.out]; have := HSM.out (by trivial); exact hr.2.2 (by omega))
    have HB6 := hid (HB5.out.trans (hb6.mono HB5.out.size))
    rw [HR.out]
    clear hr hb6
    go_wp2
    go_ret
    exact ⟨rfl, HB6.out⟩
  · have HE : Hid (sz = 0) := hid (by rw [HSZ.out, if_neg h0])
    have h0' : (z == 0) = false := by simpa using h0
    rw [HE.out]
    clear h0
    go_wp2
    go_ret
    exact ⟨rfl, HB5.out⟩
end Go.Proofs.YtjkmaioidekjcaaDoor.hands
