/- The laws on sweeping: what they share. Condition: the table of instructions' forms. -/
import Derived.Test.YtkfkdbmgmifopaaGreatDoorWldP
set_option linter.unusedSimpArgs false
set_option linter.unusedVariables false
namespace Go.Proofs.YtkfkdbmgmifopaaGreatDoor.worlds
open Go.RowKit Go.Proofs.YtkfkdbmgmifopaaGreatDoor.lib Go.Proofs.YtkfkdbmgmifopaaGreatDoor.maps Go.Proofs.YtkfkdbmgmifopaaGreatDoor.classes Go.Proofs.YtkfkdbmgmifopaaGreatDoor.errs Go.Proofs.YtkfkdbmgmifopaaGreatDoor.descs Go.Proofs.YtkfkdbmgmifopaaGreatDoor.names Go.Proofs.YtkfkdbmgmifopaaGreatDoor.grow Go.Proofs.YtkfkdbmgmifopaaGreatDoor.ins

theorem bare_get {G H : List Th} (h : G.map bare = H.map bare) {p : Nat} {x : Th} (hx : G[p]? = some x) : ∃ y, H[p]? = some y ∧ y.ty = x.ty ∧ y.has = x.has := by
  have e : (G.map bare)[p]? = (H.map bare)[p]? := by rw [h]
  rw [List.getElem?_map, List.getElem?_map, hx] at e
  cases hy : H[p]? with
  | none => rw [hy] at e; cases e
  | some y =>
    rw [hy] at e
    simp only [Option.map_some, Option.some.injEq, bare, Th.mk.injEq, true_and] at e
    exact ⟨y, rfl, e.1.symm, e.2.symm⟩
theorem marks_same {G H : List Th} {R : List Vl} {i : Nat} (h : G.map bare = H.map bare) (hm : Marks G R i) : Marks H R i := by
  induction hm with
  | root hv hl => exact .root hv hl
  | step _ hx hv hl ih =>
    obtain ⟨y, hy, _, hh⟩ := bare_get h hx
    exact .step ih hy (by rw [hh]; exact hv) hl
theorem done_same {G H : List Th} {R : List Vl} {bs : List Bool} (h : G.map bare = H.map bare) (hd : Done G R bs) : Done H R bs :=
  ⟨by rw [hd.len]; have := congrArg List.length h; rwa [List.length_map, List.length_map] at this, fun i => (hd.is i).trans ⟨marks_same h, marks_same h.symm⟩⟩
theorem bare_bare (H : List Th) : (H.map bare).map bare = H.map bare := by
  rw [List.map_map]; rfl
theorem swept_bare (T : List Bool) (H : List Th) : (sweptH T H).map bare = sweptH T H := by
  unfold sweptH; rw [List.map_map]; rfl
theorem small_same {G H : List Th} (h : G.map bare = H.map bare) (hs : SmallH H) : SmallH G := fun x hx => by
  obtain ⟨p, hp, rfl⟩ := List.getElem_of_mem hx
  obtain ⟨y, hy, ht, hh⟩ := bare_get h (List.getElem?_eq_getElem hp)
  rw [← ht, ← hh]
  exact hs y (List.mem_of_getElem? hy)
theorem small_swept {H : List Th} (bs : List Bool) (hs : SmallH H) : SmallH (sweptH (false :: bs) H) := fun y hy => by
  obtain ⟨i, x, _, hx, rfl⟩ := swept_mem hy
  have := hs x (List.mem_of_getElem? hx)
  unfold bareT
  simp only [List.length_map]
  exact this
theorem roots_same {G H : List Th} (h : G.map bare = H.map bare) (l : List CV) (R : List Vl) : rootsF l G R = rootsF l H R := by
  rw [← roots_bare l G, ← roots_bare l H, h]
/-- what holds of a heap swept twice -/
structure Twice (l : List CV) (H L : List Th) (R : List Vl) (bs : List Bool) : Prop where
  roots : rootsF l L (R.map (movedV (false :: bs))) = 0
  small : SmallH L
  le : L.length ≤ H.length
  all : ∀ cs, Done L (R.map (movedV (false :: bs))) cs → cs = List.replicate L.length true
  same : sweptH (false :: List.replicate L.length true) L = L.map bare
  moved : (R.map (movedV (false :: bs))).map (movedV (false :: List.replicate L.length true)) = R.map (movedV (false :: bs))
theorem twice_of {l : List CV} {H L : List Th} {R : List Vl} {bs : List Bool} (h0 : rootsF l H R = 0) (hd : Done H R bs) (hL : L.map bare = sweptH (false :: bs) H) (hs : SmallH H) : Twice l H L R bs := by
  have hL2 : L.map bare = (sweptH (false :: bs) H).map bare := by rw [swept_bare, hL]
  have hlen : L.length = (sweptH (false :: bs) H).length := by have := congrArg List.length hL; rwa [List.length_map] at this
  have hr : rootsF l L (R.map (movedV (false :: bs))) = 0 := by rw [roots_same hL2]; exact swept_roots hd h0
  obtain ⟨_, hp, hrp, _⟩ := roots_ok hr
  refine ⟨hr, small_same hL2 (small_swept bs hs), by rw [hlen]; exact swept_len bs H, fun cs hc => ?_, swept_same hp, ?_⟩
  · rw [hlen]
    exact swept_done hd (done_same hL2 hc)
  · have : ∀ v ∈ R.map (movedV (false :: bs)), movedV (false :: List.replicate L.length true) v = id v := fun v hv => moved_true (hrp v hv)
    rw [List.map_congr_left this, List.map_id]
theorem places_true (n : Nat) : (placesL (false :: List.replicate n true)).length = n := by
  have h := places_len (false :: List.replicate n true) (false :: List.replicate n true).length (Nat.le_refl _)
  rw [List.take_length] at h
  rw [h]
  unfold cnt1
  simp

set_option maxRecDepth 100000 in
set_option maxHeartbeats 4000000 in
theorem places_any (v : Value) (S : List Bool) (w : World) (hS : Sl w v S.length 1 (S.map .bool)) (hn : S.length ≤ 1000000) :
    Calls Tryz.prog 20 #[v] w fun e w' => ∃ v', e = .returned v' ∧ Out w w' 3 1 v' (placesL S).length ((placesL S).map (.int .i64)) := by
  obtain ⟨a3, c3, rfl⟩ := hS.val
  have HS := hid hS
  clear hS
  go_enter Tryz.func20, Tryz.ntmps20
  go_wp2_with fail
  go_loopw [3, 4] (fun v3 v4 wr => ∃ k : Nat, k ≤ S.length ∧ v4 = .int .i64 (k : Int) ∧ Hid (Out w wr 3 1 v3 (placesL (S.take k)).length ((placesL (S.take k)).map (.int .i64)))) (fun _ v _ => S.length - (intOf v).toNat)
  case atStart => exact ⟨0, Nat.zero_le _, rfl, hid (by rw [List.take_zero]; exact Out.nil _ _ _)⟩
  case round =>
    obtain ⟨k, hk, rfl, HO⟩ := hrel
    obtain ⟨wb, hwb⟩ : ∃ wb, wb = wr := ⟨_, rfl⟩
    subst hwb
    have hk0 : (0 : Int) ≤ (k : Int) := by omega
    by_cases hlt : k < S.length
    · have hk1 : (k : Int) < (S.length : Int) := by omega
      obtain ⟨bb, off, hab, hd0⟩ := bool_at (HS.out.below HO.out.below) hlt
      cases hab
      have HPS := hid (places_step hlt)
      have HPL : Hid ((placesL (S.take k)).length ≤ 1000000) := hid (by
        have h1 := places_len S k (by omega)
        have h2 := cnt_le (S.take k)
        rw [List.length_take] at h2
        omega)
      generalize S[k] = q at hd0 HPS
      obtain ⟨a9, c9, hv9⟩ := HO.out.sl.val
      subst hv9
      cases q with
      | false =>
        have HN : Hid (Out w wb 3 1 (.slice a9 (placesL (S.take k)).length c9) (placesL (S.take (k + 1))).length ((placesL (S.take (k + 1))).map (.int .i64))) := hid (by
          rw [HPS.out, if_neg (by decide), List.append_nil]; exact HO.out)
        go_wp2_with fail
        go_roundw
        case rel => exact ⟨k + 1, by omega, by simp, HN⟩
        case measure => simp [intOf]; omega
      | true =>
        go_wp2_with (at_builtin; refine wpList_append_lit w wb _ rfl _ _ 47 rfl 3 _ 1 8 1 Tryz.underlying47 infoI rfl (by decide) _ _ _ HO.out rfl rfl rfl (by intro u hu; simp at hu; subst hu; rfl) (by have := HPL.out; omega) (by have := HPL.out; omega) ?_)
        intro v5 w5 ho5 hg5
        have HN : Hid (Out w w5 3 1 v5 (placesL (S.take (k + 1))).length ((placesL (S.take (k + 1))).map (.int .i64))) := hid (by
          rw [HPS.out]; simp only [if_true, List.length_append, List.map_append]; exact ho5)
        clear ho5 hg5
        go_wp2_with fail
        go_roundw
        case rel => exact ⟨k + 1, by omega, by simp, HN⟩
        case measure => simp [intOf]; omega
    · obtain rfl : k = S.length := by omega
      have HN : Hid (Out w wb 3 1 u3 (placesL S).length ((placesL S).map (.int .i64))) := hid (by have := HO.out; rwa [List.take_length] at this)
      obtain ⟨a9, c9, hv9⟩ := HO.out.sl.val
      subst hv9
      clear HO hlt
      go_wp2
      go_ret
      exact ⟨_, rfl, HN.out⟩

def objS : ByteArray := { data := #[76, 79, 98, 106, 101, 99, 116, 59] }
def twoH : List Th := [⟨objS, .slice none 0 0, []⟩, ⟨objS, .slice none 0 0, []⟩]
theorem two_roots : rootsF [] twoH [⟨3, 2⟩] = 0 := by decide +kernel
theorem two_done {bs : List Bool} (hd : Done twoH [⟨3, 2⟩] bs) : bs = [false, true] := by
  have hl := hd.len
  have hno : ∀ i, Marks twoH [⟨3, 2⟩] i → i = 2 := fun i h => by
    cases h with
    | root hv hl => rw [List.mem_singleton.1 hv]; rfl
    | step _ hx hv hl =>
      have hm := List.mem_of_getElem? hx
      have : ∀ x ∈ twoH, x.has = [] := by
        intro x hx
        rcases List.mem_cons.1 hx with rfl | hx
        · rfl
        · rw [List.mem_singleton.1 hx]
      rw [this _ hm] at hv
      cases hv
  match bs, hl with
  | [b0, b1], _ =>
    have h1 : b1 = true := by
      have h := (hd.is 1).2 (.root (v := ⟨3, 2⟩) (List.mem_singleton_self _) ⟨rfl, by decide⟩)
      simpa using h
    have h0 : b0 = false := by
      cases b0 with
      | false => rfl
      | true => exact absurd (hno 1 ((hd.is 0).1 rfl)) (by decide)
    rw [h0, h1]

set_option maxRecDepth 100000 in
set_option maxHeartbeats 4000000 in
theorem swept_any (w : World) (hf : FormsAt w) : Calls Tryz.prog 16 #[] w fun e w' => e = .returned (.bool true) ∧ Below w.heap.size w w' := by
  obtain ⟨g0, hg0⟩ : ∃ g0, w.heap.size = g0 := ⟨_, rfl⟩
  obtain ⟨W1, hW1⟩ : ∃ W1, w.alloc (.cells #[.string { data := #[76, 79, 98, 106, 101, 99, 116, 59] }, .slice none 0 0, .string { data := #[76, 79, 98, 106, 101, 99, 116, 59] }, .slice none 0 0] 35) = W1 := ⟨_, rfl⟩
  obtain ⟨g1, hg1⟩ : ∃ g1, W1.heap.size = g1 := ⟨_, rfl⟩
  obtain ⟨W2, hW2⟩ : ∃ W2, W1.alloc (.cells #[.slice (some ⟨g0, 0, none⟩) 2 2] 25) = W2 := ⟨_, rfl⟩
  obtain ⟨g2, hg2⟩ : ∃ g2, W2.heap.size = g2 := ⟨_, rfl⟩
  obtain ⟨W3, hW3⟩ : ∃ W3, W2.alloc (.cells #[.int .i64 3, .int .i64 2] 37) = W3 := ⟨_, rfl⟩
  have HB1 : Hid (Below w.heap.size w W1) := hid (hW1 ▸ ext_alloc _ _)
  have HB12 : Hid (Below W1.heap.size W1 W2) := hid (hW2 ▸ ext_alloc _ _)
  have HB23 : Hid (Below W2.heap.size W2 W3) := hid (hW3 ▸ ext_alloc _ _)
  have HB13 := hid (HB12.out.trans (HB23.out.mono HB12.out.size))
  have HB3 := hid (HB1.out.trans (HB13.out.mono HB1.out.size))
  have HS1 : Hid (Ths W3 (.slice (some ⟨g0, 0, none⟩) 2 2) twoH) := hid (by
    have h := (Sl.lit w #[.string { data := #[76, 79, 98, 106, 101, 99, 116, 59] }, .slice none 0 0, .string { data := #[76, 79, 98, 106, 101, 99, 116, 59] }, .slice none 0 0] 35 2 2 rfl)
    rw [hg0, hW1] at h
    refine ⟨h.below HB13.out, fun x hx => ?_⟩
    rcases List.mem_cons.1 hx with rfl | hx
    · exact slN _ 2
    · rw [List.mem_singleton.1 hx]; exact slN _ 2)
  have HS3 : Hid (Vls W3 (.slice (some ⟨g2, 0, none⟩) 1 1) [⟨3, 2⟩]) := hid (by
    have h := (Sl.lit W2 #[.int .i64 3, .int .i64 2] 37 1 2 rfl)
    rw [hg2, hW3] at h
    exact h)
  have hr2 : W2.heap[g1]? = some (.cells #[.slice (some ⟨g0, 0, none⟩) 2 2] 25 (0, 0)) := by rw [← hW2, ← hg1]; exact heap_alloc_new _ _
  have x0 : W2.cell? ⟨g1, 0, none⟩ = some (.slice (some ⟨g0, 0, none⟩) 2 2) := by rw [cell_of_row _ _ _ _ _ _ hr2]; rfl
  have HSW := hid (sweep_any (.slice none 0 0) (.slice (some ⟨g0, 0, none⟩) 2 2) (.slice (some ⟨g2, 0, none⟩) 1 1) [] twoH [⟨3, 2⟩] W3 ⟨slN _ 6, fun _ h => absurd h List.not_mem_nil⟩ (hf.below HB3.out) (fun _ h => absurd h List.not_mem_nil) (by decide) HS1.out (fun x hx => by
    rcases List.mem_cons.1 hx with rfl | hx
    · decide
    · rw [List.mem_singleton.1 hx]; decide) (by decide) HS3.out)
  clear hr2 hf
  go_enter Tryz.func16, Tryz.ntmps16
  go_wp2_with fail
  refine HSW.out.mono ?_
  intro e w4 h4
  unfold SweepBy at h4
  rw [if_pos two_roots] at h4
  obtain ⟨v, vr, L, bs, rfl, hd, ho, hL, hr⟩ := h4
  have hbs := two_done hd
  subst hbs
  have hl1 : L.length = 1 := by have := congrArg List.length hL; rw [List.length_map] at this; rw [this]; decide
  have hv := ho.own.sl.val
  rw [hl1] at hv
  obtain ⟨av, cv, rfl⟩ := hv
  have hrm : ([⟨3, 2⟩] : List Vl).map (movedV [false, false, true]) = [⟨3, 1⟩] := by
    have hrk : rankOf [false, false, true] (2 : Int).toNat = 1 := by decide
    show [movedV [false, false, true] ⟨3, 2⟩] = _
    unfold movedV
    rw [if_pos rfl, hrk]
  rw [hrm] at hr
  have hrs : Vls w4 vr [⟨3, 1⟩] := hr.sl
  obtain ⟨ar, cr, hvr⟩ := hrs.val
  subst hvr
  obtain ⟨bb, off, hab, hd0, hd1⟩ := vl_at hrs (k := 0) (by decide)
  cases hab
  simp only [List.getElem_cons_zero, Nat.zero_mul, Nat.add_zero, List.length_singleton] at hd0 hd1
  have HB4 := hid (HB3.out.trans (hr.below.mono HB3.out.size))
  have HD1 := hid hd1
  have hd1b : (w4.alloc (.cells #[.slice av 1 cv] 25)).cell? ⟨bb, off + 1, none⟩ = some (.int .i64 1) := ((ext_alloc w4 _).cell (World.block_lt_of_cell? _ _ hd1)).trans hd1
  clear ho hr hrs hL hd hd0
  go_wp2
  go_ret
  exact ⟨by first | rfl | simp, HB4.out.alloc HB4.out.size _⟩
end Go.Proofs.YtkfkdbmgmifopaaGreatDoor.worlds
