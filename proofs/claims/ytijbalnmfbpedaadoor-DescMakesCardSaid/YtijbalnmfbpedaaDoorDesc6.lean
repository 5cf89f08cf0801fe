/- The law DescTells: its walk. Condition: the text is not long. -/
import Derived.Test.YtijbalnmfbpedaaDoorDesc5
import Derived.Test.YtijbalnmfbpedaaDoorTexts
namespace Go.Proofs.YtijbalnmfbpedaaDoor.descs
open Go.RowKit Go.Proofs.YtijbalnmfbpedaaDoor.lib Go.Proofs.YtijbalnmfbpedaaDoor.errs Go.Proofs.YtijbalnmfbpedaaDoor.names Go.Proofs.YtijbalnmfbpedaaDoor.texts

theorem sv_map (ts : List (List UInt8)) : ts.map sv = (ts.map bs).map .string := by rw [List.map_map]; rfl
theorem methodBy_some {w w' : World} {S g : List UInt8} {ts : List (List UInt8)} {e : Ending} (hm : methodOf S = some (ts, g)) (h : MethodBy w S e w') : ∃ v, e = .returned (.tuple #[v, .string (bs g), .nilIface]) ∧ Out w w' 9 1 v ts.length (ts.map sv) := by
  unfold MethodBy at h; rw [hm] at h; exact h
theorem methodBy_none {w w' : World} {S : List UInt8} {e : Ending} (hm : methodOf S = none) (h : MethodBy w S e w') : e = .returned (.tuple #[.slice none 0 0, .string { data := #[] }, .iface 23 (.int .i64 1)]) ∧ Below w.heap.size w w' := by
  unfold MethodBy at h; rw [hm] at h; exact h
theorem methodSaid_some {w w' : World} {S g : List UInt8} {ts : List (List UInt8)} {e : Ending} (hm : methodOf S = some (ts, g)) (h : MethodSaid w S e w') : ∃ v, e = .returned (.tuple #[v, .string (bs g), .bool true]) ∧ Out w w' 9 1 v ts.length (ts.map sv) := by
  unfold MethodSaid at h; rw [hm] at h; exact h
theorem methodSaid_none {w w' : World} {S : List UInt8} {e : Ending} (hm : methodOf S = none) (h : MethodSaid w S e w') : e = .returned (.tuple #[.slice none 0 0, .string { data := #[] }, .bool false]) ∧ Below w.heap.size w w' := by
  unfold MethodSaid at h; rw [hm] at h; exact h

/-- two lists that read the same -/
theorem texts_same (va vb : Value) (n : Nat) (ts : List (List UInt8)) (w : World) (ha : Sl w va n 1 (ts.map sv)) (hb : Sl w vb n 1 (ts.map sv)) (hn : ts.length ≤ 1000000000000) :
    Calls Tryd.prog 24 #[va, vb] w fun e w' => e = .returned (.bool true) ∧ Below w.heap.size w w' := by
  have hl : n = (ts.map bs).length := by have := ha.1; simp at this ⊢; exact this.symm
  subst hl
  rw [sv_map] at ha hb
  refine (texts_any va vb (ts.map bs) (ts.map bs) w ha hb (by simpa using hn)).mono ?_
  rintro e w' ⟨rfl, hb⟩
  exact ⟨by rw [decide_eq_true rfl], hb⟩

theorem sample : methodOf [40, 73, 91, 76, 65, 59, 41, 86] = some ([[73], [91, 76, 65, 59]], [86]) := by
  have h1 : scan [41, 86] = ([], [41, 86]) := scan_stop (.inl rfl)
  have h2 : scan [91, 76, 65, 59, 41, 86] = ([[91, 76, 65, 59]], [41, 86]) := by
    have h : tyLen [91, 76, 65, 59, 41, 86] = 4 := by decide +kernel
    rw [scan_step (by decide) (by rw [h]; decide), h]
    show (_ :: (scan [41, 86]).1, (scan [41, 86]).2) = _
    rw [h1]; rfl
  have h3 : scan [73, 91, 76, 65, 59, 41, 86] = ([[73], [91, 76, 65, 59]], [41, 86]) := by
    have h : tyLen [73, 91, 76, 65, 59, 41, 86] = 1 := by decide +kernel
    rw [scan_step (by decide) (by rw [h]; decide), h]
    show (_ :: (scan [91, 76, 65, 59, 41, 86]).1, (scan [91, 76, 65, 59, 41, 86]).2) = _
    rw [h2]; rfl
  simp only [methodOf, h3]
  decide

theorem isTy_of_isWd {l : List UInt8} (h : isWd l = true) : isTy l = true := by
  simp only [isWd, decide_eq_true_eq] at h
  rcases h with rfl | rfl <;> decide +kernel

set_option maxHeartbeats 1000000 in
theorem typed_any (w : World) : Calls Tryd.prog 18 #[] w fun e w' => e = .returned (.bool true) ∧ Below w.heap.size w w' := by
  have g1 : (bs [86]).toList = [86] := by rw [ByteArray.toList_eq]; rfl
  go_enter Tryd.func18, Tryd.ntmps18
  go_wp2_with fail
  refine (method_any _ _ (by decide)).mono ?_
  intro e w1 h1
  obtain ⟨v, rfl, ho⟩ := methodBy_some sample h1
  clear h1
  have HS := hid ho.sl
  have HB := hid ho.below
  obtain ⟨a, c, rfl⟩ := HS.out.val
  clear ho
  have HL : Hid (Sl (w1.alloc (.cells #[.string { data := #[73] }, .string { data := #[91, 76, 65, 59] }] 9)) (.slice (some ⟨w1.heap.size, 0, none⟩) 2 2) 2 1 ([[73], [91, 76, 65, 59]].map sv)) := hid (Sl.lit w1 #[.string { data := #[73] }, .string { data := #[91, 76, 65, 59] }] 9 2 1 rfl)
  have HS2 := hid (HS.out.below (ext_alloc w1 (.cells #[.string { data := #[73] }, .string { data := #[91, 76, 65, 59] }] 9)))
  go_wp2_with fail
  refine (texts_same _ _ 2 [[73], [91, 76, 65, 59]] _ HS2.out HL.out (by decide)).mono ?_
  rintro e w2 ⟨rfl, hb2⟩
  go_wp2
  go_ret
  have hb1 := HB.out
  exact ⟨rfl, hb1.trans (((ext_alloc w1 _).trans (hb2.mono (ext_alloc w1 _).size)).mono hb1.size)⟩

set_option maxRecDepth 100000 in
set_option maxHeartbeats 2000000 in
theorem descTells_any (s : ByteArray) (w : World) (hs : s.size ≤ 1048576) : Calls Tryd.prog 6 #[.string s] w fun e w' => e = .returned (.bool true) ∧ Below w.heap.size w w' := by
  have hs2 : s.size ≤ 9223372036854775807 := by omega
  have hs3 : s.size ≤ 10000000 := by omega
  have HTS : Hid (∀ ts g, methodOf s.data.toList = some (ts, g) → ts.length ≤ 5) := hid (by
    intro ts g h
    cases hS : s.data.toList with
    | nil => rw [hS] at h; cases h
    | cons c l => rw [hS] at h; simp only [methodOf] at h; split at h
                  · rename_i hc; obtain ⟨_, _, h5, _⟩ := hc; cases h; exact h5
                  · cases h)
  obtain ⟨B, hB⟩ : ∃ B, isWd s.data.toList = B := ⟨_, rfl⟩
  have HB := hid hB
  cases ht : isTy s.data.toList with
  | false =>
    have HT := hid ht
    have hBf : B = false := by
      cases B with
      | false => rfl
      | true => rw [isTy_of_isWd hB] at ht; cases ht
    subst hBf
    clear ht hB
    cases hm : methodOf s.data.toList with
    | none =>
      have HM := hid hm
      clear hm
      go_enter Tryd.func6, Tryd.ntmps6
      go_wp2_with fail
      refine (typed_any w).mono ?_
      rintro e w1 ⟨rfl, hb1⟩
      go_wp2_with fail
      refine (isType_any s _ hs2).mono ?_
      rintro e w2 ⟨rfl, rfl⟩
      rw [HT.out]
      go_wp2_with fail
      refine (tcheck_any s _ hs2).mono ?_
      intro e w2 h2
      obtain ⟨rfl, hb2⟩ := checked_false h2 HT.out
      clear h2
      have hb2 := hb1.trans (hb2.mono hb1.size)
      go_wp2_with fail
      refine (error_form _).mono ?_
      rintro e w3 ⟨rfl, rfl⟩
      go_wp2_with fail
      refine (word_any s _ hs2).mono ?_
      rintro e w3 ⟨rfl, hb3⟩
      rw [if_neg (by rw [HT.out]; decide)]
      have hb3 := hb2.trans (hb3.mono hb2.size)
      go_wp2_with fail
      refine (error_form _).mono ?_
      rintro e w4 ⟨rfl, rfl⟩
      go_wp2_with fail
      refine (method_any s _ hs3).mono ?_
      intro e w4 h4
      obtain ⟨rfl, hb4⟩ := methodBy_none HM.out h4
      clear h4
      have hb4 := hb3.trans (hb4.mono hb3.size)
      go_wp2_with fail
      refine (methodOf_any s _ hs3).mono ?_
      intro e w5 h5
      obtain ⟨rfl, hb5⟩ := methodSaid_none HM.out h5
      clear h5
      have hb5 := hb4.trans (hb5.mono hb4.size)
      go_wp2_with fail
      refine (error_form _).mono ?_
      rintro e w6 ⟨rfl, rfl⟩
      go_wp2_with fail
      refine (texts_same _ _ 0 [] _ (Out.nil _ 9 1).sl (Out.nil _ 9 1).sl (by decide)).mono ?_
      rintro e w7 ⟨rfl, hb7⟩
      have hb7 := hb5.trans (hb7.mono hb5.size)
      go_wp2_with fail
      refine (isWord_any s _).mono ?_
      rintro e w8 ⟨rfl, rfl⟩
      rw [HB.out]
      go_wp2
      go_ret
      exact ⟨by simp, hb7⟩
    | some r =>
      obtain ⟨ts, g⟩ := r
      have hts := HTS.out ts g hm
      have HM := hid hm
      clear hm
      go_enter Tryd.func6, Tryd.ntmps6
      go_wp2_with fail
      refine (typed_any w).mono ?_
      rintro e w1 ⟨rfl, hb1⟩
      go_wp2_with fail
      refine (isType_any s _ hs2).mono ?_
      rintro e w2 ⟨rfl, rfl⟩
      rw [HT.out]
      go_wp2_with fail
      refine (tcheck_any s _ hs2).mono ?_
      intro e w2 h2
      obtain ⟨rfl, hb2⟩ := checked_false h2 HT.out
      clear h2
      have hb2 := hb1.trans (hb2.mono hb1.size)
      go_wp2_with fail
      refine (error_form _).mono ?_
      rintro e w3 ⟨rfl, rfl⟩
      go_wp2_with fail
      refine (word_any s _ hs2).mono ?_
      rintro e w3 ⟨rfl, hb3⟩
      rw [if_neg (by rw [HT.out]; decide)]
      have hb3 := hb2.trans (hb3.mono hb2.size)
      go_wp2_with fail
      refine (error_form _).mono ?_
      rintro e w4 ⟨rfl, rfl⟩
      go_wp2_with fail
      refine (method_any s _ hs3).mono ?_
      intro e w4 h4
      obtain ⟨v4, rfl, ho4⟩ := methodBy_some HM.out h4
      clear h4
      have HS4 := hid ho4.sl
      have hb4 := hb3.trans (ho4.below.mono hb3.size)
      obtain ⟨a4, c4, rfl⟩ := HS4.out.val
      clear ho4
      go_wp2_with fail
      refine (methodOf_any s _ hs3).mono ?_
      intro e w5 h5
      obtain ⟨v5, rfl, ho5⟩ := methodSaid_some HM.out h5
      clear h5
      have HS5 := hid ho5.sl
      have HS6 := hid (HS4.out.below ho5.below)
      have hb5 := hb4.trans (ho5.below.mono hb4.size)
      obtain ⟨a5, c5, rfl⟩ := HS5.out.val
      clear ho5 HS4
      go_wp2_with fail
      refine (error_ok _).mono ?_
      rintro e w6 ⟨rfl, rfl⟩
      go_wp2_with fail
      refine (texts_same _ _ ts.length ts _ HS6.out HS5.out (by omega)).mono ?_
      rintro e w7 ⟨rfl, hb7⟩
      have hb7 := hb5.trans (hb7.mono hb5.size)
      go_wp2_with fail
      refine (isWord_any s _).mono ?_
      rintro e w8 ⟨rfl, rfl⟩
      rw [HB.out]
      go_wp2
      go_ret
      exact ⟨by simp, hb7⟩
  | true =>
    have HT := hid ht
    clear ht hB
    cases hm : methodOf s.data.toList with
    | none =>
      have HM := hid hm
      clear hm
      go_enter Tryd.func6, Tryd.ntmps6
      go_wp2_with fail
      refine (typed_any w).mono ?_
      rintro e w1 ⟨rfl, hb1⟩
      go_wp2_with fail
      refine (isType_any s _ hs2).mono ?_
      rintro e w2 ⟨rfl, rfl⟩
      rw [HT.out]
      go_wp2_with fail
      refine (tcheck_any s _ hs2).mono ?_
      intro e w2 h2
      obtain ⟨rfl, hb2⟩ := checked_true h2 HT.out
      clear h2
      have hb2 := hb1.trans (hb2.mono hb1.size)
      go_wp2_with fail
      refine (error_ok _).mono ?_
      rintro e w3 ⟨rfl, rfl⟩
      go_wp2_with fail
      refine (word_any s _ hs2).mono ?_
      rintro e w3 ⟨rfl, hb3⟩
      rw [if_pos HT.out, HB.out]
      have hb3 := hb2.trans (hb3.mono hb2.size)
      go_wp2_with fail
      refine (error_ok _).mono ?_
      rintro e w4 ⟨rfl, rfl⟩
      go_wp2_with fail
      refine (method_any s _ hs3).mono ?_
      intro e w4 h4
      obtain ⟨rfl, hb4⟩ := methodBy_none HM.out h4
      clear h4
      have hb4 := hb3.trans (hb4.mono hb3.size)
      go_wp2_with fail
      refine (methodOf_any s _ hs3).mono ?_
      intro e w5 h5
      obtain ⟨rfl, hb5⟩ := methodSaid_none HM.out h5
      clear h5
      have hb5 := hb4.trans (hb5.mono hb4.size)
      go_wp2_with fail
      refine (error_form _).mono ?_
      rintro e w6 ⟨rfl, rfl⟩
      go_wp2_with fail
      refine (texts_same _ _ 0 [] _ (Out.nil _ 9 1).sl (Out.nil _ 9 1).sl (by decide)).mono ?_
      rintro e w7 ⟨rfl, hb7⟩
      have hb7 := hb5.trans (hb7.mono hb5.size)
      go_wp2_with fail
      refine (isWord_any s _).mono ?_
      rintro e w8 ⟨rfl, rfl⟩
      rw [HB.out]
      go_wp2
      go_ret
      exact ⟨by simp, hb7⟩
    | some r =>
      obtain ⟨ts, g⟩ := r
      have hts := HTS.out ts g hm
      have HM := hid hm
      clear hm
      go_enter Tryd.func6, Tryd.ntmps6
      go_wp2_with fail
      refine (typed_any w).mono ?_
      rintro e w1 ⟨rfl, hb1⟩
      go_wp2_with fail
      refine (isType_any s _ hs2).mono ?_
      rintro e w2 ⟨rfl, rfl⟩
      rw [HT.out]
      go_wp2_with fail
      refine (tcheck_any s _ hs2).mono ?_
      intro e w2 h2
      obtain ⟨rfl, hb2⟩ := checked_true h2 HT.out
      clear h2
      have hb2 := hb1.trans (hb2.mono hb1.size)
      go_wp2_with fail
      refine (error_ok _).mono ?_
      rintro e w3 ⟨rfl, rfl⟩
      go_wp2_with fail
      refine (word_any s _ hs2).mono ?_
      rintro e w3 ⟨rfl, hb3⟩
      rw [if_pos HT.out, HB.out]
      have hb3 := hb2.trans (hb3.mono hb2.size)
      go_wp2_with fail
      refine (error_ok _).mono ?_
      rintro e w4 ⟨rfl, rfl⟩
      go_wp2_with fail
      refine (method_any s _ hs3).mono ?_
      intro e w4 h4
      obtain ⟨v4, rfl, ho4⟩ := methodBy_some HM.out h4
      clear h4
      have HS4 := hid ho4.sl
      have hb4 := hb3.trans (ho4.below.mono hb3.size)
      obtain ⟨a4, c4, rfl⟩ := HS4.out.val
      clear ho4
      go_wp2_with fail
      refine (methodOf_any s _ hs3).mono ?_
      intro e w5 h5
      obtain ⟨v5, rfl, ho5⟩ := methodSaid_some HM.out h5
      clear h5
      have HS5 := hid ho5.sl
      have HS6 := hid (HS4.out.below ho5.below)
      have hb5 := hb4.trans (ho5.below.mono hb4.size)
      obtain ⟨a5, c5, rfl⟩ := HS5.out.val
      clear ho5 HS4
      go_wp2_with fail
      refine (error_ok _).mono ?_
      rintro e w6 ⟨rfl, rfl⟩
      go_wp2_with fail
      refine (texts_same _ _ ts.length ts _ HS6.out HS5.out (by omega)).mono ?_
      rintro e w7 ⟨rfl, hb7⟩
      have hb7 := hb5.trans (hb7.mono hb5.size)
      go_wp2_with fail
      refine (isWord_any s _).mono ?_
      rintro e w8 ⟨rfl, rfl⟩
      rw [HB.out]
      go_wp2
      go_ret
      exact ⟨by simp, hb7⟩

end Go.Proofs.YtijbalnmfbpedaaDoor.descs
