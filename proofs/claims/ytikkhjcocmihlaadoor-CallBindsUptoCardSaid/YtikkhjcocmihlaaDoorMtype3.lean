/- Types of methods, changed: mtype.Drop. Condition: the text is not long. -/
import Derived.Test.YtikkhjcocmihlaaDoorMtype2
import Derived.Lib.OwnBridge
namespace Go.Proofs.YtikkhjcocmihlaaDoor.mtypes
open Go.RowKit Go.Proofs.YtikkhjcocmihlaaDoor.lib Go.Proofs.YtikkhjcocmihlaaDoor.errs Go.Proofs.YtikkhjcocmihlaaDoor.names Go.Proofs.YtikkhjcocmihlaaDoor.texts Go.Proofs.YtikkhjcocmihlaaDoor.descs

/-- slices.Delete of one element of a slice of the call's own -/
theorem delete_any (va : Value) (ts : List (List UInt8)) (i : Nat) (w0 w : World) (ho : Out w0 w 9 1 va ts.length (ts.map sv)) (hi : i < ts.length) :
    Calls Tryd.prog 55 #[va, .int .i64 (i : Int), .int .i64 ((i : Int) + 1)] w fun e w' => ∃ v, e = .returned v ∧ Out w0 w' 9 1 v (ts.length - 1) ((ts.eraseIdx i).map sv) := by
  have hown : w.ownsRow w0.heap.size 9 1 va ts.length (ts.map encStr) := ho.own
  have hv : va ≠ .slice none 0 0 := by
    rintro rfl
    have h := ho.sl
    obtain ⟨_, a, c, he, _, _⟩ := h
    simp only [Value.slice.injEq] at he
    omega
  · obtain ⟨g, cap, rfl, hgB, _, hcap, hmax, _, hH⟩ := Lib.holds_of_ownsRow hown hv
    have h := Tryd.slices_Delete_string g 0 cap i (i + 1) ts w hH hcap (by unfold maxLen at hmax; omega) (by omega) (by omega)
    refine h.mono ?_
    rintro e w' ⟨rfl, q, rfl⟩
    have hys : (ts.take i ++ ts.drop (i + 1) ++ List.replicate (i + 1 - i) []).length = ts.length := by
      simp only [List.length_append, List.length_take, List.length_drop, List.length_replicate]; omega
    have hup := Lib.ownsRow_putRow (q := q) (k := ts.length - 1) hown hys (by omega)
    have htk : (ts.take i ++ ts.drop (i + 1) ++ List.replicate (i + 1 - i) []).take (ts.length - 1) = ts.eraseIdx i := by
      rw [List.take_left' (by simp only [List.length_append, List.length_take, List.length_drop]; omega), List.eraseIdx_eq_take_drop_succ]
    rw [htk] at hup
    refine ⟨_, rfl, ?_, Lib.below_putRow ho.below hgB⟩
    rw [show ts.length - (i + 1 - i) = ts.length - 1 by omega]
    exact hup

def dropOf (M : List UInt8) (n : Int) : Int × List UInt8 :=
  match methodOf M with
  | none => (1, [])
  | some (ts, g) => if n < 0 ∨ (ts.length : Int) ≤ n then (2, []) else (0, makeText (ts.eraseIdx n.toNat) g)

set_option maxHeartbeats 1000000 in
theorem drop1_bad (va : Value) (ts : List (List UInt8)) (n : Int) (b1 : Nat) (w : World) (ha : Sl w va ts.length 1 (ts.map sv)) (hc1 : w.cell? ⟨b1, 0, none⟩ = some (.int .i64 n)) (hr : n < 0 ∨ (ts.length : Int) ≤ n) :
    Calls Tryd.prog 54 #[va, .pointer (some ⟨b1, 0, none⟩)] w fun e w' => e = .returned (.tuple #[.slice none 0 0, .iface 39 (.int .i64 2)]) ∧ w = w' := by
  obtain ⟨a, c, rfl⟩ := ha.val
  clear ha
  by_cases h0 : n < 0
  · clear hr
    go_enter Tryd.func54, Tryd.ntmps54
    go_wp2_with fail
    go_ret2
    exact ⟨rfl, rfl⟩
  · have h1 : (ts.length : Int) ≤ n := by omega
    clear hr
    go_enter Tryd.func54, Tryd.ntmps54
    go_wp2_with fail
    go_ret2
    exact ⟨rfl, rfl⟩

set_option maxHeartbeats 1000000 in
theorem drop1_ok (va : Value) (ts : List (List UInt8)) (i : Nat) (b1 : Nat) (w0 w : World) (ho : Out w0 w 9 1 va ts.length (ts.map sv)) (hc1 : w.cell? ⟨b1, 0, none⟩ = some (.int .i64 (i : Int))) (hi : i < ts.length) (h5 : ts.length ≤ 5) :
    Calls Tryd.prog 54 #[va, .pointer (some ⟨b1, 0, none⟩)] w fun e w' => ∃ v, e = .returned (.tuple #[v, .nilIface]) ∧ Out w0 w' 9 1 v (ts.length - 1) ((ts.eraseIdx i).map sv) := by
  have HD := hid (delete_any va ts i w0 w ho hi)
  obtain ⟨a, c, rfl⟩ := ho.sl.val
  clear ho
  have h0 : ¬ (i : Int) < 0 := by omega
  have h1 : ¬ (ts.length : Int) ≤ (i : Int) := by omega
  have h2 : (i : Int) ≤ 5 := by omega
  go_enter Tryd.func54, Tryd.ntmps54
  go_wp2_with fail
  refine HD.out.mono ?_
  rintro e w1 ⟨v, rfl, ho⟩
  go_wp2_with fail
  go_ret2
  exact ⟨_, rfl, ho⟩

theorem fault_erase {M g : List UInt8} {ts : List (List UInt8)} {i : Nat} (h : methodOf M = some (ts, g)) : makeFault (ts.eraseIdx i) g = 0 ∧ (∀ x ∈ (ts.eraseIdx i).map bs, x.size ≤ 9223372036854775807) := by
  obtain ⟨f1, _⟩ := make_method h
  obtain ⟨h5, hall, _, _, hg⟩ := text_small f1
  obtain ⟨_, _, hsm⟩ := types_small h
  have hsub : (ts.eraseIdx i).Sublist ts := List.eraseIdx_sublist ts i
  refine ⟨?_, fun x hx => hsm x ((hsub.map bs).subset hx)⟩
  unfold makeFault
  rw [if_neg (by have := hsub.length_le; omega), if_pos ⟨List.all_eq_true.2 fun x hx => List.all_eq_true.1 hall x (hsub.subset hx), hg⟩]

set_option maxRecDepth 100000 in
set_option maxHeartbeats 2000000 in
theorem changed_drop (M : ByteArray) (n : Int) (b1 : Nat) (w : World) (hM : M.size ≤ 10000000) (hc1 : w.cell? ⟨b1, 0, none⟩ = some (.int .i64 n)) :
    Calls Tryd.prog 50 #[.string M, .func (.func 54) #[] #[.pointer (some ⟨b1, 0, none⟩)]] w (Told w (dropOf M.data.toList n)) := by
  have HC1 := hid hc1
  clear hc1
  cases hm : methodOf M.data.toList with
  | none =>
    have HM := hid hm
    have HN : Hid (dropOf M.data.toList n = (1, [])) := hid (by simp only [dropOf, hm])
    clear hm
    go_enter Tryd.func50, Tryd.ntmps50
    go_wp2_with fail
    refine (method_any M _ hM).mono ?_
    intro e w1 h1
    obtain ⟨rfl, hb1⟩ := methodBy_none HM.out h1
    clear h1
    go_wp2_with fail
    go_ret2
    exact told_err HN.out (by decide) hb1
  | some r =>
    obtain ⟨ts, g⟩ := r
    have HM := hid hm
    obtain ⟨hn5, hg25, _⟩ := types_small hm
    by_cases hr : n < 0 ∨ (ts.length : Int) ≤ n
    · have HN : Hid (dropOf M.data.toList n = (2, [])) := hid (by simp only [dropOf, hm, if_pos hr])
      have HR := hid hr
      clear hm hr
      go_enter Tryd.func50, Tryd.ntmps50
      go_wp2_with fail
      refine (method_any M _ hM).mono ?_
      intro e w1 h1
      obtain ⟨v, rfl, ho⟩ := methodBy_some HM.out h1
      clear h1
      have HS := hid ho.sl
      have hb1 := ho.below
      obtain ⟨a1, c1, rfl⟩ := HS.out.val
      clear ho
      have HD1 : Hid (w1.cell? ⟨b1, 0, none⟩ = some (.int .i64 n)) := hid (by rw [hb1.cell (World.block_lt_of_cell? w _ HC1.out)]; exact HC1.out)
      go_wp2_with fail
      refine (drop1_bad _ ts n b1 w1 HS.out HD1.out HR.out).mono ?_
      rintro e w2 ⟨rfl, rfl⟩
      go_wp2_with fail
      go_ret2
      exact told_err HN.out (by decide) hb1
    · obtain ⟨i, rfl⟩ : ∃ i : Nat, n = (i : Int) := ⟨n.toNat, by omega⟩
      have hi : i < ts.length := by omega
      have HN : Hid (dropOf M.data.toList (i : Int) = (0, makeText (ts.eraseIdx i) g)) := hid (by simp only [dropOf, hm, if_neg hr, Int.toNat_natCast])
      obtain ⟨hF, hsm⟩ := fault_erase (i := i) hm
      have HF := hid hF; have HSM := hid hsm
      clear hm hr hF hsm
      go_enter Tryd.func50, Tryd.ntmps50
      go_wp2_with fail
      refine (method_any M _ hM).mono ?_
      intro e w1 h1
      obtain ⟨v, rfl, ho⟩ := methodBy_some HM.out h1
      clear h1
      have HO := hid ho
      have hb1 := ho.below
      obtain ⟨a1, c1, rfl⟩ := ho.sl.val
      clear ho
      have HD1 : Hid (w1.cell? ⟨b1, 0, none⟩ = some (.int .i64 (i : Int))) := hid (by rw [hb1.cell (World.block_lt_of_cell? w _ HC1.out)]; exact HC1.out)
      go_wp2_with fail
      refine (drop1_ok _ ts i b1 w w1 HO.out HD1.out hi hn5).mono ?_
      rintro e w2 ⟨v2, rfl, ho2⟩
      have hel : (ts.eraseIdx i).length = ts.length - 1 := List.length_eraseIdx_of_lt hi
      have HS2 : Hid (Sl w2 v2 (ts.eraseIdx i).length 1 ((ts.eraseIdx i).map sv)) := hid (by rw [hel]; exact ho2.sl)
      have hb2 := ho2.below
      obtain ⟨a2, c2, rfl⟩ := HS2.out.val
      clear ho2
      rw [hel] at HS2
      have HMK := hid (make_types _ (ts.eraseIdx i) g w2 (by rw [hel]; exact HS2.out) HSM.out (by omega))
      rw [hel]
      go_wp2_with fail
      refine HMK.out.mono ?_
      intro e w3 h3
      obtain ⟨rfl, hb3⟩ := makeBy_good h3 HF.out
      clear h3
      go_wp2_with fail
      go_ret2
      exact told_ok HN.out (hb2.trans (hb3.mono hb2.size))

set_option maxHeartbeats 1000000 in
theorem drop_any (M : ByteArray) (n : Int) (w : World) (hM : M.size ≤ 10000000) :
    Calls Tryd.prog 35 #[.string M, .int .i64 n] w (Told w (dropOf M.data.toList n)) := by
  have hbl := ext_alloc w (.cells #[.int .i64 n] 3)
  have HBL := hid hbl
  have h1 : (w.alloc (.cells #[.int .i64 n] 3)).cell? ⟨w.heap.size, 0, none⟩ = some (.int .i64 n) := by
    rw [World.cell?_alloc_at _ _ _ _ rfl]; rfl
  have H1 := hid h1
  clear hbl h1
  go_enter Tryd.func35, Tryd.ntmps35
  go_wp2_with fail
  refine (changed_drop M n _ _ hM H1.out).mono ?_
  rintro e w1 ⟨rfl, hb1⟩
  go_wp2_with fail
  go_ret2
  exact ⟨rfl, HBL.out.trans (hb1.mono HBL.out.size)⟩

theorem dropSample : dropOf [40, 73, 74, 41, 86] 0 = (0, [40, 74, 41, 86]) := by
  have h1 : scan [41, 86] = ([], [41, 86]) := scan_stop (.inl rfl)
  have h2 : scan [74, 41, 86] = ([[74]], [41, 86]) := by
    have h : tyLen [74, 41, 86] = 1 := by decide +kernel
    rw [scan_step (by decide) (by rw [h]; decide), h]
    show (_ :: (scan [41, 86]).1, (scan [41, 86]).2) = _
    rw [h1]; rfl
  have h3 : scan [73, 74, 41, 86] = ([[73], [74]], [41, 86]) := by
    have h : tyLen [73, 74, 41, 86] = 1 := by decide +kernel
    rw [scan_step (by decide) (by rw [h]; decide), h]
    show (_ :: (scan [74, 41, 86]).1, (scan [74, 41, 86]).2) = _
    rw [h2]; rfl
  have hm : methodOf [40, 73, 74, 41, 86] = some ([[73], [74]], [86]) := by
    simp only [methodOf, h3]
    decide
  simp only [dropOf, hm]
  decide

end Go.Proofs.YtikkhjcocmihlaaDoor.mtypes
