/- coffeehouselaw1.InsBack: its walk. Conditions: the texts are not long; the variables that the library reads hold what they hold at the start. -/
import Derived.Test.YtogpgfaojmmemaaDoorPrs3
import Derived.Test.YtogpgfaojmmemaaDoorBack2
set_option linter.unusedSimpArgs false
set_option linter.unusedVariables false
namespace Go.Proofs.YtogpgfaojmmemaaDoor.txts
open Go.RowKit Go.Proofs.YtogpgfaojmmemaaDoor.lib Go.Proofs.YtogpgfaojmmemaaDoor.errs Go.Proofs.YtogpgfaojmmemaaDoor.names Go.Proofs.YtogpgfaojmmemaaDoor.descs Go.Proofs.YtogpgfaojmmemaaDoor.ins Go.Proofs.YtogpgfaojmmemaaDoor.nums Go.Proofs.YtogpgfaojmmemaaDoor.flows Go.Proofs.YtogpgfaojmmemaaDoor.grow

theorem flat_lenM (x : I) (M : Nat) : ∀ nd : List UInt8, (∀ ch ∈ nd, (partL x ch).length ≤ M) → (tailL x nd).length ≤ nd.length * (M + 1)
  | [], _ => by simp [tailL]
  | ch :: nd, h => by
    have h1 := flat_lenM x M nd (fun c hc => h c (List.mem_cons_of_mem _ hc))
    have h2 := h ch (List.mem_cons_self ..)
    show (32 :: partL x ch ++ tailL x nd).length ≤ _
    rw [List.length_append, List.length_cons, List.length_cons, Nat.succ_mul]
    omega
theorem text_short {x : I} (h : insFault x = 0) (ht : x.t.size ≤ 2000000) (ha : InR x.a) (hb : InR x.b) : (textL x).length ≤ 10000000 := by
  obtain ⟨k, wd, nd, _, _, _, hp, e⟩ := form_of h
  obtain ⟨_, h3, h20⟩ := letters_ok hp
  have hm : ∀ ch ∈ nd, (partL x ch).length ≤ 2000000 := fun ch _ => by
    obtain ⟨_, _, h3, h4⟩ := brief_of h
    unfold partL
    have h1 := Lib.itoa_length_le x.a ha.1 ha.2
    have h2 := Lib.itoa_length_le x.b hb.1 hb.2
    repeat' split
    all_goals first | omega | (rw [size_len]; omega)
  have := flat_lenM x 2000000 nd hm
  have h9 : nd.length * (2000000 + 1) ≤ 3 * (2000000 + 1) := Nat.mul_le_mul_right _ h3
  rw [e, List.length_append]
  omega

set_option maxRecDepth 100000 in
set_option maxHeartbeats 4000000 in
theorem insback_any (op a b : Int) (t c n s : ByteArray) (w : World) (hv : Vars w) (hx : Fine ⟨op, a, b, t, c, n⟩) (ht : t.size ≤ 2000000) (hs : s.size ≤ 10000000) :
    Calls Tryd.prog 6 #[.agg #[.int .i64 op, .int .i64 a, .int .i64 b, .string t, .string c, .string n], .string s] w fun e w' => e = .returned (.bool true) ∧ Below w.heap.size w w' := by
  obtain ⟨X1, hX1⟩ : ∃ X1, w.alloc (.cells #[.int .i64 op, .int .i64 a, .int .i64 b, .string t, .string c, .string n] 45) = X1 := ⟨_, rfl⟩
  have HB1 : Hid (Below w.heap.size w X1) := hid (hX1 ▸ ext_alloc _ _)
  have HX : Hid (Box X1 w.heap.size ⟨op, a, b, t, c, n⟩) := hid (hX1 ▸ Box.new w ⟨op, a, b, t, c, n⟩ _)
  have HV := hid (hv.below HB1.out)
  have HF := hid hx
  have HT := hid ht
  have HS := hid hs
  have hg := ins_guard
  clear hv hx ht hs
  go_enter Tryd.func6, Tryd.ntmps6
  go_wp2_with fail
  refine (pushed_any _ HV.out).mono ?_
  rintro e w1 ⟨rfl, hb1⟩
  have HX1 := hid (HX.out.below hb1)
  have HV1 := hid (HV.out.below hb1)
  have HBB1 := hid (HB1.out.trans (hb1.mono HB1.out.size))
  clear hb1
  obtain ⟨x0, x1, x2, x3, x4, x5⟩ := HX1.out
  simp only at x0 x1 x2 x3 x4 x5
  go_wp2_with fail
  by_cases h0 : insFault ⟨op, a, b, t, c, n⟩ = 0
  · have H0 := hid h0
    refine (text_any op a b t c n _ HV1.out.forms HV1.out.pow HF.out.1 HF.out.2.1 HF.out.2.2 h0).mono ?_
    rintro e w2 ⟨rfl, hb2⟩
    clear x0 x1 x2 x3 x4 x5 h0
    have HX2 := hid (HX1.out.below hb2)
    have HV2 := hid (HV1.out.below hb2)
    have HBB2 := hid (HBB1.out.trans (hb2.mono HBB1.out.size))
    clear hb2
    obtain ⟨T, hT⟩ : ∃ T, bs (textL ⟨op, a, b, t, c, n⟩) = T := ⟨_, rfl⟩
    rw [hT]
    have hTs : T.size ≤ 10000000 := by rw [← hT]; exact text_short H0.out HT.out HF.out.2.1 HF.out.2.2
    have HPW : Hid (parseW T.data.toList = some ⟨op, a, b, t, c, n⟩) := hid (by rw [← hT]; exact parse_text H0.out HF.out.2.1 HF.out.2.2)
    have HTS := hid hTs
    clear hT hTs
    go_wp2_with fail
    refine (parse_any T _ HV2.out HTS.out).mono ?_
    rintro e w3 ⟨hb3, he⟩
    rw [HPW.out] at he
    obtain rfl : e = .returned (.tuple #[.agg #[.int .i64 op, .int .i64 a, .int .i64 b, .string t, .string c, .string n], .nilIface]) := he
    have HX3 := hid (HX2.out.below hb3)
    have HV3 := hid (HV2.out.below hb3)
    have HBB3 := hid (HBB2.out.trans (hb3.mono HBB2.out.size))
    clear hb3
    have hq := neq_same op a b t c n
    have HXX := hid (HX3.out.below (ext_alloc w3 (.cells #[.int .i64 op, .int .i64 a, .int .i64 b, .string t, .string c, .string n] 45)))
    obtain ⟨x0, x1, x2, x3, x4, x5⟩ := HXX.out
    simp only at x0 x1 x2 x3 x4 x5
    go_wp2_with fail
    obtain ⟨X4, hX4⟩ : ∃ X4, w3.alloc (.cells #[.int .i64 op, .int .i64 a, .int .i64 b, .string t, .string c, .string n] 45) = X4 := ⟨_, rfl⟩
    have HB4 : Hid (Below w3.heap.size w3 X4) := hid (hX4 ▸ ext_alloc _ _)
    rw [hX4]
    have HV4 := hid (HV3.out.below HB4.out)
    have HBB4 := hid (HBB3.out.trans (HB4.out.mono HBB3.out.size))
    clear HXX x0 x1 x2 x3 x4 x5
    clear hX4 hq
    refine (parse_any s _ HV4.out HS.out).mono ?_
    rintro e w5 ⟨hb5, he⟩
    have HB5 := hid (HBB4.out.trans (hb5.mono HBB4.out.size))
    have HV5 := hid (HV4.out.below hb5)
    clear hb5
    cases hps : parseW s.data.toList with
    | none =>
      rw [hps] at he
      obtain rfl : e = .returned (.tuple #[.agg #[.int .i64 0, .int .i64 0, .int .i64 0, .string { data := #[] }, .string { data := #[] }, .string { data := #[] }], .iface 41 (.int .i64 1)]) := he
      clear hps
      have hq := eql_same 0 0 0 { data := #[] } { data := #[] } { data := #[] }
      obtain ⟨ei, hei, hec⟩ := errno_info
      have hie := fun w : World => run_eql_iface_int (P := Tryd.prog) w 1 1 Tryd.underlying28 Tryd.underlying41 hei hec
      go_wp2
      go_ret
      exact ⟨rfl, HB5.out.trans ((ext_alloc _ _).mono HB5.out.size)⟩
    | some y =>
      rw [hps] at he
      obtain ⟨hy0, hyt, hyf⟩ := parse_right hps (by have := HS.out; rw [size_len]; exact this)
      obtain ⟨yo, ya, yb, yt, yc, yn⟩ := y
      obtain rfl : e = .returned (.tuple #[.agg #[.int .i64 yo, .int .i64 ya, .int .i64 yb, .string yt, .string yc, .string yn], .nilIface]) := he
      have HY0 := hid hy0
      have HYT : Hid (bs (textL ⟨yo, ya, yb, yt, yc, yn⟩) = s) := hid (by rw [hyt]; rfl)
      have HYF := hid hyf
      clear hps hy0 hyt hyf
      go_wp2_with fail
      obtain ⟨X6, hX6⟩ : ∃ X6, w5.alloc (.cells #[.int .i64 yo, .int .i64 ya, .int .i64 yb, .string yt, .string yc, .string yn] 45) = X6 := ⟨_, rfl⟩
      have HB6 : Hid (Below w5.heap.size w5 X6) := hid (hX6 ▸ ext_alloc _ _)
      have HX6 : Hid (Box X6 w5.heap.size ⟨yo, ya, yb, yt, yc, yn⟩) := hid (hX6 ▸ Box.new w5 ⟨yo, ya, yb, yt, yc, yn⟩ _)
      rw [hX6]
      have HV6 := hid (HV5.out.below HB6.out)
      have HBB6 := hid (HB5.out.trans (HB6.out.mono HB5.out.size))
      clear hX6
      refine (text_any yo ya yb yt yc yn _ HV6.out.forms HV6.out.pow HYF.out.1 HYF.out.2.1 HYF.out.2.2 HY0.out).mono ?_
      rintro e w7 ⟨rfl, hb7⟩
      rw [HYT.out]
      have HX7 := hid (HX6.out.below hb7)
      have HV7 := hid (HV6.out.below hb7)
      have HB7 := hid (HBB6.out.trans (hb7.mono HBB6.out.size))
      clear hb7
      obtain ⟨y0, y1, y2, y3, y4, y5⟩ := HX7.out
      simp only at y0 y1 y2 y3 y4 y5
      go_wp2_with fail
      refine (icheck_any yo ya yb yt yc yn _ HV7.out.forms HYF.out.1.1 HYF.out.1.2.1 HYF.out.1.2.2).mono ?_
      rintro e w8 ⟨rfl, hb8⟩
      rw [HY0.out, show errVal 0 = Value.nilIface from rfl]
      have HB8 := hid (HB7.out.trans (hb8.mono HB7.out.size))
      clear hb8
      go_wp2
      go_ret
      exact ⟨rfl, HB8.out⟩
  · have H0 := hid h0
    refine (text_bad op a b t c n _ HV1.out.forms HF.out.1.1 HF.out.1.2.1 HF.out.1.2.2 h0).mono ?_
    rintro e w2 ⟨rfl, hb2⟩
    clear x0 x1 x2 x3 x4 x5 h0
    have HV2 := hid (HV1.out.below hb2)
    have HBB2 := hid (HBB1.out.trans (hb2.mono HBB1.out.size))
    clear hb2
    generalize insFault ⟨op, a, b, t, c, n⟩ = z
    go_wp2_with fail
    refine (parse_any s _ HV2.out HS.out).mono ?_
    rintro e w5 ⟨hb5, he⟩
    have HB5 := hid (HBB2.out.trans (hb5.mono HBB2.out.size))
    have HV5 := hid (HV2.out.below hb5)
    clear hb5
    cases hps : parseW s.data.toList with
    | none =>
      rw [hps] at he
      obtain rfl : e = .returned (.tuple #[.agg #[.int .i64 0, .int .i64 0, .int .i64 0, .string { data := #[] }, .string { data := #[] }, .string { data := #[] }], .iface 41 (.int .i64 1)]) := he
      clear hps
      have hq := eql_same 0 0 0 { data := #[] } { data := #[] } { data := #[] }
      obtain ⟨ei, hei, hec⟩ := errno_info
      have hie := fun w : World => run_eql_iface_int (P := Tryd.prog) w 1 1 Tryd.underlying28 Tryd.underlying41 hei hec
      go_wp2
      go_ret
      exact ⟨rfl, HB5.out.trans ((ext_alloc _ _).mono HB5.out.size)⟩
    | some y =>
      rw [hps] at he
      obtain ⟨hy0, hyt, hyf⟩ := parse_right hps (by have := HS.out; rw [size_len]; exact this)
      obtain ⟨yo, ya, yb, yt, yc, yn⟩ := y
      obtain rfl : e = .returned (.tuple #[.agg #[.int .i64 yo, .int .i64 ya, .int .i64 yb, .string yt, .string yc, .string yn], .nilIface]) := he
      have HY0 := hid hy0
      have HYT : Hid (bs (textL ⟨yo, ya, yb, yt, yc, yn⟩) = s) := hid (by rw [hyt]; rfl)
      have HYF := hid hyf
      clear hps hy0 hyt hyf
      go_wp2_with fail
      obtain ⟨X6, hX6⟩ : ∃ X6, w5.alloc (.cells #[.int .i64 yo, .int .i64 ya, .int .i64 yb, .string yt, .string yc, .string yn] 45) = X6 := ⟨_, rfl⟩
      have HB6 : Hid (Below w5.heap.size w5 X6) := hid (hX6 ▸ ext_alloc _ _)
      have HX6 : Hid (Box X6 w5.heap.size ⟨yo, ya, yb, yt, yc, yn⟩) := hid (hX6 ▸ Box.new w5 ⟨yo, ya, yb, yt, yc, yn⟩ _)
      rw [hX6]
      have HV6 := hid (HV5.out.below HB6.out)
      have HBB6 := hid (HB5.out.trans (HB6.out.mono HB5.out.size))
      clear hX6
      refine (text_any yo ya yb yt yc yn _ HV6.out.forms HV6.out.pow HYF.out.1 HYF.out.2.1 HYF.out.2.2 HY0.out).mono ?_
      rintro e w7 ⟨rfl, hb7⟩
      rw [HYT.out]
      have HX7 := hid (HX6.out.below hb7)
      have HV7 := hid (HV6.out.below hb7)
      have HB7 := hid (HBB6.out.trans (hb7.mono HBB6.out.size))
      clear hb7
      obtain ⟨y0, y1, y2, y3, y4, y5⟩ := HX7.out
      simp only at y0 y1 y2 y3 y4 y5
      go_wp2_with fail
      refine (icheck_any yo ya yb yt yc yn _ HV7.out.forms HYF.out.1.1 HYF.out.1.2.1 HYF.out.1.2.2).mono ?_
      rintro e w8 ⟨rfl, hb8⟩
      rw [HY0.out, show errVal 0 = Value.nilIface from rfl]
      have HB8 := hid (HB7.out.trans (hb8.mono HB7.out.size))
      clear hb8
      go_wp2
      go_ret
      exact ⟨rfl, HB8.out⟩
end Go.Proofs.YtogpgfaojmmemaaDoor.txts
