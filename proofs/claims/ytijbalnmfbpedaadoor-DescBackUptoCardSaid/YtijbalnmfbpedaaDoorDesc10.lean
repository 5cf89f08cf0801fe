/- The laws DescMakes and DescBack: their walks. Condition of the second: the text is not long. -/
import Derived.Test.YtijbalnmfbpedaaDoorDesc9
namespace Go.Proofs.YtijbalnmfbpedaaDoor.descs
open Go.RowKit Go.Proofs.YtijbalnmfbpedaaDoor.lib Go.Proofs.YtijbalnmfbpedaaDoor.errs Go.Proofs.YtijbalnmfbpedaaDoor.names Go.Proofs.YtijbalnmfbpedaaDoor.texts

theorem raw_sv (xs : List ByteArray) : (raw xs).map sv = xs.map .string := by unfold raw; rw [List.map_map]; rfl
theorem raw_bs (ts : List (List UInt8)) : raw (ts.map bs) = ts := by
  unfold raw; rw [List.map_map]
  conv => rhs; rw [← List.map_id ts]
  rfl
theorem fault_cases (xs : List (List UInt8)) (g : List UInt8) : makeFault xs g = 0 ∨ makeFault xs g = 1 ∨ makeFault xs g = 4 := by
  unfold makeFault; split
  · exact .inr (.inr rfl)
  · split
    · exact .inl rfl
    · exact .inr (.inl rfl)
theorem makeBy_bad {w w' : World} {xs : List (List UInt8)} {g : List UInt8} {e : Ending} {z : Int} (h : MakeBy w xs g e w') (hz : makeFault xs g = z) (h0 : z ≠ 0) : e = .returned (.tuple #[.string { data := #[] }, .iface 23 (.int .i64 z)]) ∧ Below w.heap.size w w' := by
  obtain ⟨h1, h2⟩ := h
  rw [hz, if_neg h0] at h1
  unfold errVal at h1
  rw [if_neg h0] at h1
  exact ⟨h1, h2⟩
theorem makeBy_good {w w' : World} {xs : List (List UInt8)} {g : List UInt8} {e : Ending} (h : MakeBy w xs g e w') (hz : makeFault xs g = 0) : e = .returned (.tuple #[.string (bs (makeText xs g)), .nilIface]) ∧ Below w.heap.size w w' := by
  obtain ⟨h1, h2⟩ := h
  rw [hz, if_pos rfl] at h1
  exact ⟨h1, h2⟩

set_option maxRecDepth 100000 in
set_option maxHeartbeats 2000000 in
theorem makes_bad (va : Value) (xs : List ByteArray) (g : ByteArray) (w : World) (ha : Sl w va xs.length 1 (xs.map .string)) (hz : ∀ x ∈ xs, x.size ≤ 9223372036854775807) (hg : g.size ≤ 9223372036854775807) (z : Int) (hF : makeFault (raw xs) g.data.toList = z) (h0 : z ≠ 0) :
    Calls Tryd.prog 7 #[va, .string g] w fun e w' => e = .returned (.bool true) ∧ Below w.heap.size w w' := by
  obtain ⟨a, c, rfl⟩ := ha.val
  have HA := hid ha; have HZ := hid hz; have HF := hid hF; have H0 := hid h0
  have b0 : (z == 0) = false := beq_eq_false_iff_ne.2 h0
  clear ha hz hF
  go_enter Tryd.func7, Tryd.ntmps7
  go_wp2_with fail
  refine (typed_any w).mono ?_
  rintro e w1 ⟨rfl, hb1⟩
  have HA1 := hid (HA.out.below hb1)
  go_wp2_with fail
  refine (makeFault_any _ xs g _ HA1.out HZ.out hg).mono ?_
  rintro e w2 ⟨rfl, rfl⟩
  rw [HF.out]
  go_wp2_with fail
  refine (make_any _ xs g _ HA1.out HZ.out hg).mono ?_
  intro e w3 h3
  obtain ⟨rfl, hb3⟩ := makeBy_bad h3 HF.out H0.out
  clear h3
  go_wp2_with fail
  refine (error_some z z _ H0.out).mono ?_
  rintro e w4 ⟨rfl, rfl⟩
  go_wp2
  go_ret
  exact ⟨by simp, hb1.trans (hb3.mono hb1.size)⟩

set_option maxRecDepth 100000 in
set_option maxHeartbeats 2000000 in
theorem makes_good (va : Value) (xs : List ByteArray) (g : ByteArray) (w : World) (ha : Sl w va xs.length 1 (xs.map .string)) (hz : ∀ x ∈ xs, x.size ≤ 9223372036854775807) (hg : g.size ≤ 9223372036854775807) (hF : makeFault (raw xs) g.data.toList = 0) :
    Calls Tryd.prog 7 #[va, .string g] w fun e w' => e = .returned (.bool true) ∧ Below w.heap.size w w' := by
  obtain ⟨hx5, hall, hg25, htl, _⟩ := text_small hF
  have hfl := flatten_small hall
  rw [raw_len] at hx5 hfl
  rw [size_len] at hg25
  have hfl2 : (raw xs).flatten.length ≤ 1000000000000 := by omega
  have HFL := hid hfl2
  have hts : (bs (makeText (raw xs) g.data.toList)).size ≤ 10000000 := by rw [bs_size]; omega
  have HM := hid (method_make hF)
  obtain ⟨a, c, rfl⟩ := ha.val
  have HA := hid ha; have HZ := hid hz; have HF := hid hF
  obtain ⟨T, hT⟩ : ∃ T, bs (makeText (raw xs) g.data.toList) = T := ⟨_, rfl⟩
  have hTd : T.data.toList = makeText (raw xs) g.data.toList := by rw [← hT]; rfl
  rw [hT] at hts
  rw [← hTd] at HM
  have HT := hid hT
  have HB : Hid (bs g.data.toList = g) := hid rfl
  clear ha hz hF hall hfl hfl2 htl hT hTd
  go_enter Tryd.func7, Tryd.ntmps7
  go_wp2_with fail
  refine (typed_any w).mono ?_
  rintro e w1 ⟨rfl, hb1⟩
  have HA1 := hid (HA.out.below hb1)
  go_wp2_with fail
  refine (makeFault_any _ xs g _ HA1.out HZ.out hg).mono ?_
  rintro e w2 ⟨rfl, rfl⟩
  rw [HF.out]
  go_wp2_with fail
  refine (make_any _ xs g _ HA1.out HZ.out hg).mono ?_
  intro e w3 h3
  obtain ⟨rfl, hb3⟩ := makeBy_good h3 HF.out
  clear h3
  rw [HT.out]
  have hb3 := hb1.trans (hb3.mono hb1.size)
  go_wp2_with fail
  refine (error_ok _).mono ?_
  rintro e w4 ⟨rfl, rfl⟩
  go_wp2_with fail
  refine (method_any T _ hts).mono ?_
  intro e w5 h5
  obtain ⟨v5, rfl, ho5⟩ := methodBy_some HM.out h5
  clear h5
  rw [HB.out]
  have hb5 := hb3.trans (ho5.below.mono hb3.size)
  have HS5 : Hid (Sl w5 v5 (raw xs).length 1 ((raw xs).map sv)) := hid ho5.sl
  have HA5 : Hid (Sl w5 (.slice a xs.length c) (raw xs).length 1 ((raw xs).map sv)) := hid (by rw [raw_sv, raw_len]; exact HA.out.below hb5)
  obtain ⟨a5, c5, rfl⟩ := HS5.out.val
  clear ho5
  go_wp2_with fail
  refine (texts_same _ _ _ (raw xs) _ HS5.out HA5.out (by rw [raw_len]; omega)).mono ?_
  rintro e w6 ⟨rfl, hb6⟩
  have hb6 := hb5.trans (hb6.mono hb5.size)
  have HA6 := hid (HA.out.below hb6)
  go_wp2_with fail
  refine (methodText_any _ xs g _ HA6.out (by omega) HFL.out (by omega)).mono ?_
  rintro e w7 ⟨rfl, rfl⟩
  rw [HT.out]
  go_wp2
  go_ret
  exact ⟨by simp, hb6⟩

theorem descMakes_any (va : Value) (xs : List ByteArray) (g : ByteArray) (w : World) (ha : Sl w va xs.length 1 (xs.map .string)) (hz : ∀ x ∈ xs, x.size ≤ 9223372036854775807) (hg : g.size ≤ 9223372036854775807) :
    Calls Tryd.prog 7 #[va, .string g] w fun e w' => e = .returned (.bool true) ∧ Below w.heap.size w w' := by
  rcases fault_cases (raw xs) g.data.toList with h | h | h
  · exact makes_good va xs g w ha hz hg h
  · exact makes_bad va xs g w ha hz hg 1 h (by decide)
  · exact makes_bad va xs g w ha hz hg 4 h (by decide)

set_option maxRecDepth 100000 in
set_option maxHeartbeats 2000000 in
theorem descBack_any (s : ByteArray) (w : World) (hs : s.size ≤ 1048576) :
    Calls Tryd.prog 8 #[.string s] w fun e w' => e = .returned (.bool true) ∧ Below w.heap.size w w' := by
  have hs3 : s.size ≤ 10000000 := by omega
  cases hm : methodOf s.data.toList with
  | none =>
    have HM := hid hm
    clear hm
    go_enter Tryd.func8, Tryd.ntmps8
    go_wp2_with fail
    refine (typed_any w).mono ?_
    rintro e w1 ⟨rfl, hb1⟩
    go_wp2_with fail
    refine (method_any s _ hs3).mono ?_
    intro e w2 h2
    obtain ⟨rfl, hb2⟩ := methodBy_none HM.out h2
    clear h2
    go_wp2
    go_ret
    exact ⟨rfl, hb1.trans (hb2.mono hb1.size)⟩
  | some r =>
    obtain ⟨ts, g⟩ := r
    obtain ⟨hF, hS⟩ := make_method hm
    obtain ⟨hx5, hall, hg25, htl, _⟩ := text_small hF
    have HM := hid hm; have HF := hid hF
    have HB : Hid (bs (makeText ts g) = s) := hid (by rw [hS]; rfl)
    obtain ⟨xs, hxs⟩ : ∃ xs, ts.map bs = xs := ⟨_, rfl⟩
    have HXS := hid hxs
    have HRX : Hid (raw xs = ts) := hid (by rw [← hxs]; exact raw_bs ts)
    have HZ : Hid (∀ x ∈ xs, x.size ≤ 9223372036854775807) := hid (by
      intro x hx
      rw [← hxs] at hx
      obtain ⟨y, hy, rfl⟩ := List.mem_map.1 hx
      have := (ty_append (List.all_eq_true.1 hall y hy) []).2.1
      rw [bs_size]; omega)
    have hgs : (bs g).size ≤ 9223372036854775807 := by rw [bs_size]; omega
    clear hm hF hS hall htl hxs
    go_enter Tryd.func8, Tryd.ntmps8
    go_wp2_with fail
    refine (typed_any w).mono ?_
    rintro e w1 ⟨rfl, hb1⟩
    go_wp2_with fail
    refine (method_any s _ hs3).mono ?_
    intro e w2 h2
    obtain ⟨v2, rfl, ho2⟩ := methodBy_some HM.out h2
    clear h2
    have hb2 := hb1.trans (ho2.below.mono hb1.size)
    have HS2 : Hid (Sl w2 v2 xs.length 1 (xs.map .string)) := hid (by rw [← HXS.out, ← sv_map, List.length_map]; exact ho2.sl)
    obtain ⟨a2, c2, rfl⟩ := HS2.out.val
    clear ho2
    have hmk := make_any _ xs (bs g) w2 HS2.out HZ.out hgs
    rw [HRX.out] at hmk
    have HMK := hid hmk
    clear hmk
    go_wp2_with fail
    refine HMK.out.mono ?_
    intro e w3 h3
    obtain ⟨rfl, hb3⟩ := makeBy_good h3 HF.out
    clear h3
    rw [bs_data, HB.out]
    go_wp2
    go_ret
    exact ⟨by simp, hb2.trans (hb3.mono hb2.size)⟩

end Go.Proofs.YtijbalnmfbpedaaDoor.descs
