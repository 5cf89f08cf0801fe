/- The law FileBack: its walk. Conditions: the class is not long, its code's numbers are of 64 bits; the bytes are not many; the variables that the library reads hold what they hold at the start. -/
import Derived.Test.YtnhhaefoilhlhaaGreatDoorFile17
import Derived.Test.YtnhhaefoilhlhaaGreatDoorSameD
import Derived.Test.YtnhhaefoilhlhaaGreatDoorErr
set_option linter.unusedSimpArgs false
set_option linter.unusedVariables false
namespace Go.Proofs.YtnhhaefoilhlhaaGreatDoor.files
open Go.RowKit Go.Proofs.YtnhhaefoilhlhaaGreatDoor.lib Go.Proofs.YtnhhaefoilhlhaaGreatDoor.errs Go.Proofs.YtnhhaefoilhlhaaGreatDoor.names Go.Proofs.YtnhhaefoilhlhaaGreatDoor.descs Go.Proofs.YtnhhaefoilhlhaaGreatDoor.ins Go.Proofs.YtnhhaefoilhlhaaGreatDoor.flows Go.Proofs.YtnhhaefoilhlhaaGreatDoor.hdls Go.Proofs.YtnhhaefoilhlhaaGreatDoor.classes Go.Proofs.YtnhhaefoilhlhaaGreatDoor.txts Go.Proofs.YtnhhaefoilhlhaaGreatDoor.nums Go.Proofs.YtnhhaefoilhlhaaGreatDoor.keep Go.Proofs.YtnhhaefoilhlhaaGreatDoor.grow Go.Proofs.YtnhhaefoilhlhaaGreatDoor.same

theorem mb_short {m : MV} (h : SizedM m) (h8 : m.hs.length ≤ 8) : (mb m).length ≤ 20000 := by
  have h1 := h.nm; have h2 := h.ty
  have h3 := enc_small h.code h.nums
  have h4 := flat_le hb 300 m.hs (fun x hx => by unfold hb; rw [List.length_append, tb_len]; have := (h.hs x hx).cls; simp; omega)
  unfold mb
  simp only [List.length_append, List.length_singleton, tb_len]
  omega
theorem cb_few {c : CV} (h : clsFault c = 0) (hn : ∀ m ∈ c.mets, ∀ x ∈ m.code, Small x ∧ InR x.a ∧ InR x.b) (hs : SmallC c) : Bytes (cb c) := by
  refine ⟨cb_bytes c, ?_⟩
  have hz := sized_cls h hn hs
  have hg := good_cls h hn hs
  have h1 := hz.nm; have h2 := hz.sup; have h3 := hg.fn; have h4 := hg.dn; have h5 := hg.mn
  have k1 := flat_le tb 256 c.faces (fun x hx => by rw [tb_len]; have := hz.faces x hx; omega)
  have k2 := flat_le fb 512 c.fields (fun x hx => by unfold fb; rw [List.length_append, tb_len, tb_len]; have := hz.fields x hx; omega)
  have k3 := flat_le mb 20000 c.mets (fun x hx => mb_short (hz.mets x hx) (hg.mets x hx).hlen)
  unfold cb
  simp only [List.length_append, List.length_singleton, tb_len, show magic.length = 5 from rfl]
  omega
theorem cb_some (c : CV) : 0 < (cb c).length := by unfold cb magic; simp only [List.length_append, List.length_cons]; omega
/-- the values of a class that was made or came in -/
theorem row_six {c : CV} {u : World} (h : c.At u) : c.cells.toArray.size = 6 ∧ c.cells.toArray.all (·.oneCell') = true := by
  obtain ⟨a1, c1, e1⟩ := h.faces.val
  obtain ⟨a2, c2, e2⟩ := h.fields.val
  obtain ⟨a3, c3, e3⟩ := h.mets.sl.val
  refine ⟨rfl, ?_⟩
  unfold CV.cells
  rw [e1, e2, e3]
  simp [Value.oneCell']
theorem size_info {r : Array Value} (h : r.size = 6) : (Tryz.prog.info? 26).map (·.size) = some r.size := by rw [h]; kernel_rfl
def zeroC : CV := ⟨{ data := #[] }, { data := #[] }, .slice none 0 0, false, .slice none 0 0, .slice none 0 0, [], [], []⟩
theorem zeroC_at (w : World) : zeroC.At w :=
  ⟨⟨rfl, none, 0, rfl, Nat.le_refl _, .inl rfl⟩, ⟨rfl, none, 0, rfl, Nat.le_refl _, .inl rfl⟩, ⟨⟨rfl, none, 0, rfl, Nat.le_refl _, .inl rfl⟩, fun m hm => by cases hm⟩⟩
theorem zeroC_few : FewC zeroC := ⟨Nat.zero_le _, Nat.zero_le _, Nat.zero_le _, fun m hm => by cases hm⟩
theorem zeroC_row : zeroC.cells.toArray = #[.string { data := #[] }, .string { data := #[] }, .slice none 0 0, .bool false, .slice none 0 0, .slice none 0 0] := rfl
/-- what is known of a class whose bare form is one that was read -/
theorem made_good {b : List Int} {c0 D : CV} (h : okC b = some c0) (hb : Bytes b) (hD : bareC D = c0) : clsFault D = 0 ∧ cb D = b ∧ SmallC D ∧ (∀ m ∈ D.mets, ∀ x ∈ m.code, Small x ∧ InR x.a ∧ InR x.b) := by
  obtain ⟨h1, h2, h3, h4, _⟩ := okC_some h hb
  subst hD
  rw [fault_bare] at h1
  rw [cb_bare] at h2
  exact ⟨h1, h2, small_bare h3, fine_bare h4⟩

set_option maxRecDepth 100000 in
set_option maxHeartbeats 8000000 in
theorem fileback_any (c : CV) (vb : Value) (b : List Int) (w : World) (hc : c.At w) (hb : Sl w vb b.length 1 (b.map (.int .u8))) (hbb : Bytes b) (hv : Vars w) (hsm : SmallC c) (hn : ∀ m ∈ c.mets, ∀ x ∈ m.code, Small x ∧ InR x.a ∧ InR x.b) :
    Calls Tryz.prog 3 #[.agg c.cells.toArray, vb] w fun e w' => e = .returned (.bool true) ∧ Below w.heap.size w w' := by
  have HDB := hid (fun (u : World) (h : Below w.heap.size w u) => fdecode_any vb b u (hb.below h) hbb (hv.below h))
  have HSB := hid (fun (u : World) (h : Below w.heap.size w u) => hb.below h)
  have HBY := hid hbb
  obtain ⟨ab, cbb, rfl⟩ := hb.val
  clear hb hbb
  have HEN := hid (fun (u : World) (h : Below w.heap.size w u) => fencode_any c u (hc.below h) (hv.forms.below h) (hv.pow.below h) hsm hn)
  have HVV := hid (fun (u : World) (h : Below w.heap.size w u) => hv.below h)
  have HCS := hid (fun (u : World) (D : CV) (h : Below w.heap.size w u) (hD : D.At u) (hDs : FewC D) => class_same c D u (hc.below h) hD (few_small hsm) hDs)
  have HG : Hid (clsFault c = 0 → Bytes (cb c) ∧ okC (cb c) = some (bareC c)) := hid (fun h => ⟨cb_few h hn hsm, okC_cb h hn hsm⟩)
  obtain ⟨h6, hone⟩ := row_six hc
  obtain ⟨CR, hCR⟩ : ∃ CR, c.cells.toArray = CR := ⟨_, rfl⟩
  rw [hCR] at h6 hone
  simp only [hCR] at HEN HCS ⊢
  have H6 := hid h6
  obtain ⟨q, hq⟩ : ∃ q, w.heap.size = q := ⟨_, rfl⟩
  obtain ⟨W0, hW0⟩ : ∃ W0, w.alloc (.cells CR 26) = W0 := ⟨_, rfl⟩
  have HB0 : Hid (Below w.heap.size w W0) := hid (by subst hW0; exact ext_alloc _ _)
  have HX0 : Hid (W0.heap[q]? = some (.cells CR 26)) := hid (by subst hW0; rw [← hq]; exact heap_alloc_new _ _)
  clear hc hv hsm hn hCR hone
  go_enter Tryz.func3, Tryz.ntmps3
  go_wp2_with fail
  refine (filed_any W0 (HVV.out W0 HB0.out).forms (HVV.out W0 HB0.out).pow).mono ?_
  rintro e w1 ⟨rfl, hb1⟩
  have HB1 := hid (HB0.out.trans (hb1.mono HB0.out.size))
  have HX1 := hid ((hb1.block q (Array.getElem?_eq_some_iff.1 HX0.out).1).trans HX0.out)
  clear hb1 hW0
  go_wp2_with (refine wpList_load_row rfl 26 (.tmp 2) rfl q rfl _ _ _ _ HX1.out Tryz.underlying26 rfl (size_info H6.out) ?_)
  refine (HEN.out w1 HB1.out).mono ?_
  intro e w2 h2
  unfold FEncBy at h2
  by_cases h0 : clsFault c = 0
  · rw [if_pos h0] at h2
    obtain ⟨v2, rfl, ho2⟩ := h2
    have HG2 := hid (HG.out h0)
    have HB2 := hid (HB1.out.trans (ho2.below.mono HB1.out.size))
    have HX2 := hid ((ho2.below.block q (Array.getElem?_eq_some_iff.1 HX1.out).1).trans HX1.out)
    have HD2 := hid (fdecode_any v2 (cb c) w2 ho2.sl HG2.out.1 (HVV.out w2 HB2.out))
    obtain ⟨a2, c2, rfl⟩ := ho2.sl.val
    clear ho2 h0
    go_wp2_with fail
    refine HD2.out.mono ?_
    intro e w3 h3
    obtain ⟨hbd, hd⟩ := h3
    have HB23 := hid hbd
    rw [HG2.out.2] at hd
    obtain ⟨D3, hD3, hm3, rfl⟩ := hd
    have HD3 := hid hD3
    have HM3 := hid hm3
    have HB3 := hid (HB2.out.trans (hbd.mono HB2.out.size))
    obtain ⟨hs6_, hone_⟩ := row_six hm3.at_
    obtain ⟨DR3, hDR3⟩ : ∃ R, D3.cells.toArray = R := ⟨_, rfl⟩
    have HDR3 := hid hDR3
    rw [hDR3] at hs6_ hone_ ⊢
    have HS3 := hid hs6_
    have HO3 := hid hone_
    obtain ⟨g3, hg3⟩ : ∃ g, w3.heap.size = g := ⟨_, rfl⟩
    have HGG3 := hid hg3
    obtain ⟨WA3, hWA3⟩ : ∃ W, w3.alloc (.cells #[.string { data := #[] }, .string { data := #[] }, .slice none 0 0, .bool false, .slice none 0 0, .slice none 0 0] 26) = W := ⟨_, rfl⟩
    have A3 : Hid (WA3.heap[g3]? = some (.cells #[.string { data := #[] }, .string { data := #[] }, .slice none 0 0, .bool false, .slice none 0 0, .slice none 0 0] 26)) := hid (by subst hWA3; rw [← hg3]; exact heap_alloc_new _ _)
    have KA3 : Hid (Below w3.heap.size w3 WA3) := hid (by subst hWA3; exact ext_alloc _ _)
    obtain ⟨WB3, hWB3⟩ : ∃ W, WA3.setRow g3 DR3 = W := ⟨_, rfl⟩
    have Y3 : Hid (WB3.heap[g3]? = some (.cells DR3 26)) := hid (by subst hWB3; exact setRow_heap WA3 g3 _ _ _ _ A3.out)
    have KB3 : Hid (Below w3.heap.size w3 WB3) := hid (by subst hWB3; exact Keeps.below KA3.out KA3.out.size (keeps_rowF WA3 g3 _) (fun k hk => by omega))
    have HBB3 := hid (HB3.out.trans (KB3.out.mono HB3.out.size))
    have HMB3 := hid (HM3.out.keeps (Keeps.of_below (F := fun _ => False) KB3.out) (fun k hk => hk.elim))
    clear hbd hD3 hm3 hDR3 hs6_ hone_
    have HX2b := hid ((HB23.out.block q (Array.getElem?_eq_some_iff.1 HX2.out).1).trans HX2.out)
    have HX3 := hid ((KB3.out.block q (Array.getElem?_eq_some_iff.1 HX2b.out).1).trans HX2b.out)
    have HC3 := hid (HCS.out WB3 D3 HBB3.out HMB3.out.at_ (few_small (made_good HG2.out.2 HG2.out.1 HD3.out).2.2.1))
    rw [HDR3.out] at HC3
    go_wp2_with (first | (refine wpList_store_row rfl 26 (.tmp 8) (.tmp 29) rfl g3 DR3 rfl rfl 26 _ A3.out (size_info HS3.out) HS3.out.symm HO3.out ?_) | (refine wpList_load_row rfl 26 (.tmp 2) rfl q rfl _ _ _ _ HX3.out Tryz.underlying26 rfl (size_info H6.out) ?_) | (refine wpList_load_row rfl 26 (.tmp 8) rfl g3 rfl _ _ _ _ Y3.out Tryz.underlying26 rfl (size_info HS3.out) ?_))
    refine HC3.out.mono ?_
    rintro e w4 ⟨r, rfl, hr, hb4⟩
    obtain rfl : r = true := hr.2 HD3.out.symm
    have HB4 := hid (HBB3.out.trans (hb4.mono HBB3.out.size))
    clear hb4 hr hWB3 hWA3 hg3 HC3
    go_wp2_with fail
    refine (HDB.out w4 HB4.out).mono ?_
    intro e w5 h5
    cases hok : okC b with
    | none =>
      obtain ⟨hbd, hd⟩ := h5
      rw [hok] at hd
      subst hd
      have HB5 := hid (HB4.out.trans (hbd.mono HB4.out.size))
      obtain ⟨g5, hg5⟩ : ∃ g, w5.heap.size = g := ⟨_, rfl⟩
      obtain ⟨WA5, hWA5⟩ : ∃ W, w5.alloc (.cells #[.string { data := #[] }, .string { data := #[] }, .slice none 0 0, .bool false, .slice none 0 0, .slice none 0 0] 26) = W := ⟨_, rfl⟩
      have A5 : Hid (WA5.heap[g5]? = some (.cells #[.string { data := #[] }, .string { data := #[] }, .slice none 0 0, .bool false, .slice none 0 0, .slice none 0 0] 26)) := hid (by subst hWA5; rw [← hg5]; exact heap_alloc_new _ _)
      have KA5 : Hid (Below w5.heap.size w5 WA5) := hid (by subst hWA5; exact ext_alloc _ _)
      obtain ⟨WB5, hWB5⟩ : ∃ W, WA5.setRow g5 #[.string { data := #[] }, .string { data := #[] }, .slice none 0 0, .bool false, .slice none 0 0, .slice none 0 0] = W := ⟨_, rfl⟩
      have Y5 : Hid (WB5.heap[g5]? = some (.cells #[.string { data := #[] }, .string { data := #[] }, .slice none 0 0, .bool false, .slice none 0 0, .slice none 0 0] 26)) := hid (by subst hWB5; exact setRow_heap WA5 g5 _ _ _ _ A5.out)
      have KB5 : Hid (Below w5.heap.size w5 WB5) := hid (by subst hWB5; exact Keeps.below KA5.out KA5.out.size (keeps_rowF WA5 g5 _) (fun k hk => by omega))
      have HBB5 := hid (HB5.out.trans (KB5.out.mono HB5.out.size))
      have HZ5 := hid (class_same zeroC zeroC WB5 (zeroC_at _) (zeroC_at _) zeroC_few zeroC_few)
      rw [zeroC_row] at HZ5
      obtain ⟨i_, hi_, hc_⟩ := errno_info
      have he := fun w : World => run_eql_iface_int (P := Tryz.prog) w 1 1 Tryz.underlying30 Tryz.underlying36 hi_ hc_
      clear hbd hi_ hc_
      go_wp2_with (first | (refine wpList_store_row rfl 26 (.tmp 11) (.tmp 43) rfl g5 #[.string { data := #[] }, .string { data := #[] }, .slice none 0 0, .bool false, .slice none 0 0, .slice none 0 0] rfl rfl 26 _ A5.out (by kernel_rfl) rfl (by simp [Value.oneCell']) ?_) | (refine wpList_load_row rfl 26 (.tmp 11) rfl g5 rfl _ _ _ _ Y5.out Tryz.underlying26 rfl (by kernel_rfl) ?_))
      refine HZ5.out.mono ?_
      rintro e w6 ⟨r, rfl, hr, hb6⟩
      obtain rfl : r = true := by simpa using hr
      have HB6 := hid (HBB5.out.trans (hb6.mono HBB5.out.size))
      clear hb6 hr hWB5 hWA5 hg5 HZ5
      go_wp2
      go_ret
      exact ⟨rfl, HB6.out⟩
    | some c0 =>
      obtain ⟨hbd, hd⟩ := h5
      have HB45 := hid hbd
      rw [hok] at hd
      obtain ⟨D5, hD5, hm5, rfl⟩ := hd
      have HD5 := hid hD5
      have HM5 := hid hm5
      have HB5 := hid (HB4.out.trans (hbd.mono HB4.out.size))
      obtain ⟨hs6_, hone_⟩ := row_six hm5.at_
      obtain ⟨DR5, hDR5⟩ : ∃ R, D5.cells.toArray = R := ⟨_, rfl⟩
      have HDR5 := hid hDR5
      rw [hDR5] at hs6_ hone_ ⊢
      have HS5 := hid hs6_
      have HO5 := hid hone_
      obtain ⟨g5, hg5⟩ : ∃ g, w5.heap.size = g := ⟨_, rfl⟩
      have HGG5 := hid hg5
      obtain ⟨WA5, hWA5⟩ : ∃ W, w5.alloc (.cells #[.string { data := #[] }, .string { data := #[] }, .slice none 0 0, .bool false, .slice none 0 0, .slice none 0 0] 26) = W := ⟨_, rfl⟩
      have A5 : Hid (WA5.heap[g5]? = some (.cells #[.string { data := #[] }, .string { data := #[] }, .slice none 0 0, .bool false, .slice none 0 0, .slice none 0 0] 26)) := hid (by subst hWA5; rw [← hg5]; exact heap_alloc_new _ _)
      have KA5 : Hid (Below w5.heap.size w5 WA5) := hid (by subst hWA5; exact ext_alloc _ _)
      obtain ⟨WB5, hWB5⟩ : ∃ W, WA5.setRow g5 DR5 = W := ⟨_, rfl⟩
      have Y5 : Hid (WB5.heap[g5]? = some (.cells DR5 26)) := hid (by subst hWB5; exact setRow_heap WA5 g5 _ _ _ _ A5.out)
      have KB5 : Hid (Below w5.heap.size w5 WB5) := hid (by subst hWB5; exact Keeps.below KA5.out KA5.out.size (keeps_rowF WA5 g5 _) (fun k hk => by omega))
      have HBB5 := hid (HB5.out.trans (KB5.out.mono HB5.out.size))
      have HMB5 := hid (HM5.out.keeps (Keeps.of_below (F := fun _ => False) KB5.out) (fun k hk => hk.elim))
      clear hbd hD5 hm5 hDR5 hs6_ hone_
      have HMG := hid (made_good hok HBY.out HD5.out)
      have HE5 := hid (fencode_any D5 WB5 HMB5.out.at_ (HVV.out _ HBB5.out).forms (HVV.out _ HBB5.out).pow HMG.out.2.2.1 HMG.out.2.2.2)
      rw [HDR5.out] at HE5
      clear hok
      go_wp2_with (first | (refine wpList_store_row rfl 26 (.tmp 11) (.tmp 43) rfl g5 DR5 rfl rfl 26 _ A5.out (size_info HS5.out) HS5.out.symm HO5.out ?_) | (refine wpList_load_row rfl 26 (.tmp 11) rfl g5 rfl _ _ _ _ Y5.out Tryz.underlying26 rfl (size_info HS5.out) ?_))
      refine HE5.out.mono ?_
      intro e w7 h7
      unfold FEncBy at h7
      rw [if_pos HMG.out.1, HMG.out.2.1] at h7
      obtain ⟨v7, rfl, ho7⟩ := h7
      have HB7 := hid (HBB5.out.trans (ho7.below.mono HBB5.out.size))
      obtain ⟨S, hS⟩ : ∃ S, strOfNums b = S := ⟨_, rfl⟩
      have hcs := run_conv_str (P := Tryz.prog) Tryz.underlying27 Tryz.underlying5 Tryz.underlying9 ho7.sl
      have hct := run_conv_str (P := Tryz.prog) Tryz.underlying27 Tryz.underlying5 Tryz.underlying9 (HSB.out w7 HB7.out)
      rw [hS] at hcs hct
      obtain ⟨a7, c7, rfl⟩ := ho7.sl.val
      clear ho7 hS hWB5 hWA5 hg5 HE5
      go_wp2
      go_ret
      exact ⟨by first | rfl | simp, HB7.out⟩
  · rw [if_neg h0] at h2
    obtain ⟨rfl, hb2⟩ := h2
    have HB4 := hid (HB1.out.trans (hb2.mono HB1.out.size))
    obtain ⟨w4, hw4⟩ : ∃ W, W = w2 := ⟨_, rfl⟩
    subst hw4
    clear hb2 h0
    generalize clsFault c = z
    go_wp2_with fail
    refine (HDB.out w4 HB4.out).mono ?_
    intro e w5 h5
    cases hok : okC b with
    | none =>
      obtain ⟨hbd, hd⟩ := h5
      rw [hok] at hd
      subst hd
      have HB5 := hid (HB4.out.trans (hbd.mono HB4.out.size))
      obtain ⟨g5, hg5⟩ : ∃ g, w5.heap.size = g := ⟨_, rfl⟩
      obtain ⟨WA5, hWA5⟩ : ∃ W, w5.alloc (.cells #[.string { data := #[] }, .string { data := #[] }, .slice none 0 0, .bool false, .slice none 0 0, .slice none 0 0] 26) = W := ⟨_, rfl⟩
      have A5 : Hid (WA5.heap[g5]? = some (.cells #[.string { data := #[] }, .string { data := #[] }, .slice none 0 0, .bool false, .slice none 0 0, .slice none 0 0] 26)) := hid (by subst hWA5; rw [← hg5]; exact heap_alloc_new _ _)
      have KA5 : Hid (Below w5.heap.size w5 WA5) := hid (by subst hWA5; exact ext_alloc _ _)
      obtain ⟨WB5, hWB5⟩ : ∃ W, WA5.setRow g5 #[.string { data := #[] }, .string { data := #[] }, .slice none 0 0, .bool false, .slice none 0 0, .slice none 0 0] = W := ⟨_, rfl⟩
      have Y5 : Hid (WB5.heap[g5]? = some (.cells #[.string { data := #[] }, .string { data := #[] }, .slice none 0 0, .bool false, .slice none 0 0, .slice none 0 0] 26)) := hid (by subst hWB5; exact setRow_heap WA5 g5 _ _ _ _ A5.out)
      have KB5 : Hid (Below w5.heap.size w5 WB5) := hid (by subst hWB5; exact Keeps.below KA5.out KA5.out.size (keeps_rowF WA5 g5 _) (fun k hk => by omega))
      have HBB5 := hid (HB5.out.trans (KB5.out.mono HB5.out.size))
      have HZ5 := hid (class_same zeroC zeroC WB5 (zeroC_at _) (zeroC_at _) zeroC_few zeroC_few)
      rw [zeroC_row] at HZ5
      obtain ⟨i_, hi_, hc_⟩ := errno_info
      have he := fun w : World => run_eql_iface_int (P := Tryz.prog) w 1 1 Tryz.underlying30 Tryz.underlying36 hi_ hc_
      clear hbd hi_ hc_
      go_wp2_with (first | (refine wpList_store_row rfl 26 (.tmp 11) (.tmp 43) rfl g5 #[.string { data := #[] }, .string { data := #[] }, .slice none 0 0, .bool false, .slice none 0 0, .slice none 0 0] rfl rfl 26 _ A5.out (by kernel_rfl) rfl (by simp [Value.oneCell']) ?_) | (refine wpList_load_row rfl 26 (.tmp 11) rfl g5 rfl _ _ _ _ Y5.out Tryz.underlying26 rfl (by kernel_rfl) ?_))
      refine HZ5.out.mono ?_
      rintro e w6 ⟨r, rfl, hr, hb6⟩
      obtain rfl : r = true := by simpa using hr
      have HB6 := hid (HBB5.out.trans (hb6.mono HBB5.out.size))
      clear hb6 hr hWB5 hWA5 hg5 HZ5
      go_wp2
      go_ret
      exact ⟨rfl, HB6.out⟩
    | some c0 =>
      obtain ⟨hbd, hd⟩ := h5
      have HB45 := hid hbd
      rw [hok] at hd
      obtain ⟨D5, hD5, hm5, rfl⟩ := hd
      have HD5 := hid hD5
      have HM5 := hid hm5
      have HB5 := hid (HB4.out.trans (hbd.mono HB4.out.size))
      obtain ⟨hs6_, hone_⟩ := row_six hm5.at_
      obtain ⟨DR5, hDR5⟩ : ∃ R, D5.cells.toArray = R := ⟨_, rfl⟩
      have HDR5 := hid hDR5
      rw [hDR5] at hs6_ hone_ ⊢
      have HS5 := hid hs6_
      have HO5 := hid hone_
      obtain ⟨g5, hg5⟩ : ∃ g, w5.heap.size = g := ⟨_, rfl⟩
      have HGG5 := hid hg5
      obtain ⟨WA5, hWA5⟩ : ∃ W, w5.alloc (.cells #[.string { data := #[] }, .string { data := #[] }, .slice none 0 0, .bool false, .slice none 0 0, .slice none 0 0] 26) = W := ⟨_, rfl⟩
      have A5 : Hid (WA5.heap[g5]? = some (.cells #[.string { data := #[] }, .string { data := #[] }, .slice none 0 0, .bool false, .slice none 0 0, .slice none 0 0] 26)) := hid (by subst hWA5; rw [← hg5]; exact heap_alloc_new _ _)
      have KA5 : Hid (Below w5.heap.size w5 WA5) := hid (by subst hWA5; exact ext_alloc _ _)
      obtain ⟨WB5, hWB5⟩ : ∃ W, WA5.setRow g5 DR5 = W := ⟨_, rfl⟩
      have Y5 : Hid (WB5.heap[g5]? = some (.cells DR5 26)) := hid (by subst hWB5; exact setRow_heap WA5 g5 _ _ _ _ A5.out)
      have KB5 : Hid (Below w5.heap.size w5 WB5) := hid (by subst hWB5; exact Keeps.below KA5.out KA5.out.size (keeps_rowF WA5 g5 _) (fun k hk => by omega))
      have HBB5 := hid (HB5.out.trans (KB5.out.mono HB5.out.size))
      have HMB5 := hid (HM5.out.keeps (Keeps.of_below (F := fun _ => False) KB5.out) (fun k hk => hk.elim))
      clear hbd hD5 hm5 hDR5 hs6_ hone_
      have HMG := hid (made_good hok HBY.out HD5.out)
      have HE5 := hid (fencode_any D5 WB5 HMB5.out.at_ (HVV.out _ HBB5.out).forms (HVV.out _ HBB5.out).pow HMG.out.2.2.1 HMG.out.2.2.2)
      rw [HDR5.out] at HE5
      clear hok
      go_wp2_with (first | (refine wpList_store_row rfl 26 (.tmp 11) (.tmp 43) rfl g5 DR5 rfl rfl 26 _ A5.out (size_info HS5.out) HS5.out.symm HO5.out ?_) | (refine wpList_load_row rfl 26 (.tmp 11) rfl g5 rfl _ _ _ _ Y5.out Tryz.underlying26 rfl (size_info HS5.out) ?_))
      refine HE5.out.mono ?_
      intro e w7 h7
      unfold FEncBy at h7
      rw [if_pos HMG.out.1, HMG.out.2.1] at h7
      obtain ⟨v7, rfl, ho7⟩ := h7
      have HB7 := hid (HBB5.out.trans (ho7.below.mono HBB5.out.size))
      obtain ⟨S, hS⟩ : ∃ S, strOfNums b = S := ⟨_, rfl⟩
      have hcs := run_conv_str (P := Tryz.prog) Tryz.underlying27 Tryz.underlying5 Tryz.underlying9 ho7.sl
      have hct := run_conv_str (P := Tryz.prog) Tryz.underlying27 Tryz.underlying5 Tryz.underlying9 (HSB.out w7 HB7.out)
      rw [hS] at hcs hct
      obtain ⟨a7, c7, rfl⟩ := ho7.sl.val
      clear ho7 hS hWB5 hWA5 hg5 HE5
      go_wp2
      go_ret
      exact ⟨by first | rfl | simp, HB7.out⟩
end Go.Proofs.YtnhhaefoilhlhaaGreatDoor.files
