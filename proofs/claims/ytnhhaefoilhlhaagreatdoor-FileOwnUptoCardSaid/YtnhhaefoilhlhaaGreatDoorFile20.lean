/- The law FileOwn: its walk. Conditions: the class is not long, its code's numbers are of 64 bits; the variables that the library reads hold what they hold at the start. -/
import Derived.Test.YtnhhaefoilhlhaaGreatDoorFile18
import Derived.Test.YtnhhaefoilhlhaaGreatDoorTxt4
import Derived.Test.YtnhhaefoilhlhaaGreatDoorNamed
set_option linter.unusedSimpArgs false
set_option linter.unusedVariables false
namespace Go.Proofs.YtnhhaefoilhlhaaGreatDoor.files
open Go.RowKit Go.Proofs.YtnhhaefoilhlhaaGreatDoor.lib Go.Proofs.YtnhhaefoilhlhaaGreatDoor.errs Go.Proofs.YtnhhaefoilhlhaaGreatDoor.names Go.Proofs.YtnhhaefoilhlhaaGreatDoor.descs Go.Proofs.YtnhhaefoilhlhaaGreatDoor.ins Go.Proofs.YtnhhaefoilhlhaaGreatDoor.flows Go.Proofs.YtnhhaefoilhlhaaGreatDoor.hdls Go.Proofs.YtnhhaefoilhlhaaGreatDoor.classes Go.Proofs.YtnhhaefoilhlhaaGreatDoor.txts Go.Proofs.YtnhhaefoilhlhaaGreatDoor.nums Go.Proofs.YtnhhaefoilhlhaaGreatDoor.keep Go.Proofs.YtnhhaefoilhlhaaGreatDoor.grow Go.Proofs.YtnhhaefoilhlhaaGreatDoor.same

set_option maxRecDepth 100000 in
set_option maxHeartbeats 8000000 in
theorem fileown_any (c : CV) (n : Int) (w : World) (hc : c.At w) (hv : Vars w) (hsm : SmallC c) (hn : ∀ m ∈ c.mets, ∀ x ∈ m.code, Small x ∧ InR x.a ∧ InR x.b) (hnb : 0 ≤ n ∧ n ≤ 255) :
    Calls Tryz.prog 5 #[.agg c.cells.toArray, .int .u8 n] w fun e w' => e = .returned (.bool true) ∧ Below w.heap.size w w' := by
  have HEN := hid (fun (u : World) (h : Below w.heap.size w u) => fencode_any c u (hc.below h) (hv.forms.below h) (hv.pow.below h) hsm hn)
  have HVV := hid (fun (u : World) (h : Below w.heap.size w u) => hv.below h)
  have HCS := hid (fun (u : World) (D : CV) (h : Below w.heap.size w u) (hD : D.At u) (hDs : FewC D) => class_same c D u (hc.below h) hD (few_small hsm) hDs)
  have HG : Hid (clsFault c = 0 → Bytes (cb c) ∧ okC (cb c) = some (bareC c)) := hid (fun h => ⟨cb_few h hn hsm, okC_cb h hn hsm⟩)
  obtain ⟨h6, hone⟩ := row_six hc
  obtain ⟨CR, hCR⟩ : ∃ CR, c.cells.toArray = CR := ⟨_, rfl⟩
  rw [hCR] at h6 hone
  simp only [hCR] at HEN HCS ⊢
  have H6 := hid h6
  obtain ⟨q, hq⟩ : ∃ q, w.heap.size = q := ⟨_, rfl⟩
  obtain ⟨W0, hW0⟩ : ∃ W0, w.alloc (.cells CR 26) = W0 := ⟨_, rfl⟩
  have HB0 : Hid (Below w.heap.size w W0) := hid (by subst hW0; exact ext_alloc _ _)
  have HX0 : Hid (W0.heap[q]? = some (.cells CR 26)) := hid (by subst hW0; rw [← hq]; exact heap_alloc_new _ _)
  clear hc hv hsm hn hCR hone
  go_enter Tryz.func5, Tryz.ntmps5
  go_wp2_with fail
  refine (named_any W0).mono ?_
  rintro e w1 ⟨rfl, hb1⟩
  have HB1 := hid (HB0.out.trans (hb1.mono HB0.out.size))
  have HX1 := hid ((hb1.block q (Array.getElem?_eq_some_iff.1 HX0.out).1).trans HX0.out)
  clear hb1 hW0
  go_wp2_with (refine wpList_load_row rfl 26 (.tmp 2) rfl q rfl _ _ _ _ HX1.out Tryz.underlying26 rfl (size_info H6.out) ?_)
  refine (HEN.out w1 HB1.out).mono ?_
  intro e w2 h2
  unfold FEncBy at h2
  by_cases h0 : clsFault c = 0
  · rw [if_pos h0] at h2
    obtain ⟨v2, rfl, ho2⟩ := h2
    have HG2 := hid (HG.out h0)
    have HB2 := hid (HB1.out.trans (ho2.below.mono HB1.out.size))
    have HPOS := hid (cb_some c)
    obtain ⟨E, hE⟩ : ∃ E, cb c = E := ⟨_, rfl⟩
    have HE := hid hE
    rw [hE] at ho2 HPOS HG2
    have HEB := hid HG2.out.1
    obtain ⟨m, hm⟩ : ∃ m, E.length = m := ⟨_, rfl⟩
    have HM := hid hm
    have HO2 : Hid (Sl w2 v2 m 1 (E.map (.int .u8))) := hid (by rw [← hm]; exact ho2.sl)
    have HX2 := hid ((ho2.below.block q (Array.getElem?_eq_some_iff.1 HX1.out).1).trans HX1.out)
    obtain ⟨a2, c2, rfl⟩ := ho2.sl.val
    rw [hm]
    have hm10 : m ≤ 10000000 := by have := HEB.out.2; omega
    have HMD := hid (Out.made w2 5 1)
    have HO2m := hid (HO2.out.below HMD.out.below)
    rw [hm] at HO2 HO2m
    clear hm ho2
    clear h0 hE
    have hm0 : 0 < m := by have := HPOS.out; have := HM.out; omega
    go_wp2_with (at_builtin; refine wpList_append_src w2 _ rfl _ _ 27 rfl 5 _ 1 1 m Tryz.underlying27 infoB rfl (by decide) _ _ _ HMD.out rfl _ _ HO2m.out rfl (by intro u hu; obtain ⟨z, _, rfl⟩ := List.mem_map.1 hu; rfl) (by omega) (by omega) ?_)
    intro v3 w3 ho3 hg3
    have HO3 : Hid (Out w2 w3 5 1 v3 m (E.map (.int .u8))) := hid (by simpa using ho3)
    clear ho3 hg3
    obtain ⟨g, cap, rfl, hmc, hcl⟩ := HO3.out.shape (by have := HPOS.out; have := HM.out; omega)
    have HGL : Hid (w2.heap.size ≤ g ∧ g < w3.heap.size) := hid (HO3.out.own.lt g rfl)
    have HB3 := hid (HB2.out.trans (HO3.out.below.mono HB2.out.size))
    have HX3 := hid ((HO3.out.below.block q (Array.getElem?_eq_some_iff.1 HX2.out).1).trans HX2.out)
    have HB3 := hid (HB2.out.trans (HO3.out.below.mono HB2.out.size))
    have HD4 := hid (fdecode_any (.slice (some ⟨g, 0, none⟩) m cap) E w3 (by rw [HM.out]; exact HO3.out.sl) HEB.out (HVV.out w3 HB3.out))
    go_wp2_with fail
    refine HD4.out.mono ?_
    intro e w5 h5
    have hok := HG2.out.2
    obtain ⟨hbd, hd⟩ := h5
    have HB35 := hid hbd
    rw [hok] at hd
    obtain ⟨D5, hD5, hm5, rfl⟩ := hd
    have HD5 := hid hD5
    have HM5 := hid hm5
    have HB5 := hid (HB3.out.trans (hbd.mono HB3.out.size))
    obtain ⟨hs6_, hone_⟩ := row_six hm5.at_
    obtain ⟨DR5, hDR5⟩ : ∃ R, D5.cells.toArray = R := ⟨_, rfl⟩
    have HDR5 := hid hDR5
    rw [hDR5] at hs6_ hone_ ⊢
    have HS5 := hid hs6_
    have HO5r := hid hone_
    obtain ⟨g5, hg5⟩ : ∃ g, w5.heap.size = g := ⟨_, rfl⟩
    have HGG5 := hid hg5
    obtain ⟨WA5, hWA5⟩ : ∃ W, w5.alloc (.cells #[.string { data := #[] }, .string { data := #[] }, .slice none 0 0, .bool false, .slice none 0 0, .slice none 0 0] 26) = W := ⟨_, rfl⟩
    have A5 : Hid (WA5.heap[g5]? = some (.cells #[.string { data := #[] }, .string { data := #[] }, .slice none 0 0, .bool false, .slice none 0 0, .slice none 0 0] 26)) := hid (by subst hWA5; rw [← hg5]; exact heap_alloc_new _ _)
    have KA5 : Hid (Below w5.heap.size w5 WA5) := hid (by subst hWA5; exact ext_alloc _ _)
    obtain ⟨WB5, hWB5⟩ : ∃ W, WA5.setRow g5 DR5 = W := ⟨_, rfl⟩
    have Y5 : Hid (WB5.heap[g5]? = some (.cells DR5 26)) := hid (by subst hWB5; exact setRow_heap WA5 g5 _ _ _ _ A5.out)
    have KB5 : Hid (Below w5.heap.size w5 WB5) := hid (by subst hWB5; exact Keeps.below KA5.out KA5.out.size (keeps_rowF WA5 g5 _) (fun k hk => by omega))
    have HBB5 := hid (HB5.out.trans (KB5.out.mono HB5.out.size))
    have HMB5 := hid (HM5.out.keeps (Keeps.of_below (F := fun _ => False) KB5.out) (fun k hk => hk.elim))
    clear hbd hD5 hm5 hDR5 hs6_ hone_
    have HMG := hid (made_good HG2.out.2 HEB.out HD5.out)
    have HX5 := hid ((HB35.out.block q (Array.getElem?_eq_some_iff.1 HX3.out).1).trans HX3.out)
    have HXB5 := hid ((KB5.out.block q (Array.getElem?_eq_some_iff.1 HX5.out).1).trans HX5.out)
    have HO5 := hid ((HO3.out.later HB35.out).later KB5.out)
    have HGN : Hid (g ≠ q ∧ g ≠ g5 ∧ g < w3.heap.size ∧ w.heap.size ≤ g) := hid (by
      have h1 := (Array.getElem?_eq_some_iff.1 HX1.out).1
      have h2 := HGL.out
      have h3 := (Array.getElem?_eq_some_iff.1 HX2.out).1
      have h4 := HGG5.out
      have h5 := HB35.out.size
      have h6 := HB2.out.size
      omega)
    have HMB0 := hid (HMB5.out)
    go_wp2_with (refine wpList_store_row rfl 26 (.tmp 9) (.tmp 32) rfl g5 DR5 rfl rfl 26 _ A5.out (size_info HS5.out) HS5.out.symm HO5r.out ?_)
    go_loopw [11] (fun i wr => ∃ k : Nat, k ≤ m ∧ i = .int .i64 k ∧ Hid (∃ xs, Out w2 wr 5 1 (.slice (some ⟨g, 0, none⟩) m cap) m xs) ∧ Hid (Keeps (fun j => j = g) WB5 wr)) (fun i _ => m - (intOf i).toNat)
    case atStart => exact ⟨0, Nat.zero_le _, rfl, hid ⟨_, HO5.out⟩, hid (Keeps.refl _ _)⟩
    case round =>
      obtain ⟨k, hk, rfl, HX, HK⟩ := hrel
      by_cases hlt : k < m
      · have hi : (0 : Int) ≤ (k : Int) := by omega
        have hkl : (k : Int) < (m : Int) := by omega
        obtain ⟨xs, hox⟩ := HX.out
        obtain ⟨g', cap', u, hv', hg', hcl', hfz, hset⟩ := hox.store hlt
        simp only [Value.slice.injEq, Option.some.injEq, Addr.mk.injEq, and_true, true_and] at hv'
        obtain ⟨rfl, rfl⟩ := hv'
        have HX2' : Hid (∃ xs, Out w2 (wr.setCell ⟨g, k, none⟩ (.int .u8 n)) 5 1 (.slice (some ⟨g, 0, none⟩) m cap) m xs) := hid ⟨_, hset _⟩
        have HK2 : Hid (Keeps (fun j => j = g) WB5 (wr.setCell ⟨g, k, none⟩ (.int .u8 n))) := hid (HK.out.trans (Keeps.set wr g k _))
        clear hset hox
        go_wp2
        go_roundw
        case rel => exact ⟨k + 1, by omega, by go_num, HX2', HK2⟩
        case measure => simp [intOf]; omega
      · have hge : ¬ (k : Int) < (m : Int) := by omega
        obtain ⟨W6, hW6⟩ : ∃ W, W = wr := ⟨_, rfl⟩
        subst hW6
        obtain ⟨xs, hox⟩ := HX.out
        have HB6 := hid (HB2.out.trans (hox.below.mono HB2.out.size))
        have HO6 := hid (HO2.out.below hox.below)
        clear hox
        have HM6 := hid (HMB5.out.keeps HK.out fun j hj => .inl (by have := HGN.out.2.2.1; omega))
        have HX6 := hid ((HK.out.block q (Array.getElem?_eq_some_iff.1 HXB5.out).1 (fun e => HGN.out.1 e.symm)).trans HXB5.out)
        have Y6 := hid ((HK.out.block g5 (Array.getElem?_eq_some_iff.1 Y5.out).1 (fun e => HGN.out.2.1 e.symm)).trans Y5.out)
        have HC6 := hid (HCS.out W6 D5 HB6.out HM6.out.at_ (few_small HMG.out.2.2.1))
        rw [HDR5.out] at HC6
        go_wp2_with (first | (refine wpList_load_row rfl 26 (.tmp 2) rfl q rfl _ _ _ _ HX6.out Tryz.underlying26 rfl (size_info H6.out) ?_) | (refine wpList_load_row rfl 26 (.tmp 9) rfl g5 rfl _ _ _ _ Y6.out Tryz.underlying26 rfl (size_info HS5.out) ?_))
        refine HC6.out.mono ?_
        rintro e w7 ⟨r, rfl, hr, hb7⟩
        obtain rfl : r = true := hr.2 HD5.out.symm
        have HB7 := hid (HB6.out.trans (hb7.mono HB6.out.size))
        have HM7 := hid (HM6.out.keeps (Keeps.of_below (F := fun _ => False) hb7) (fun k hk => hk.elim))
        have Y7 := hid ((hb7.block g5 (Array.getElem?_eq_some_iff.1 Y6.out).1).trans Y6.out)
        have HO7 := hid (HO6.out.below hb7)
        have HE7 := hid (fencode_any D5 w7 HM7.out.at_ (HVV.out _ HB7.out).forms (HVV.out _ HB7.out).pow HMG.out.2.2.1 HMG.out.2.2.2)
        rw [HDR5.out] at HE7
        clear hb7 hr HC6
        go_wp2_with (refine wpList_load_row rfl 26 (.tmp 9) rfl g5 rfl _ _ _ _ Y7.out Tryz.underlying26 rfl (size_info HS5.out) ?_)
        refine HE7.out.mono ?_
        intro e w8 h8
        unfold FEncBy at h8
        rw [if_pos HMG.out.1, HMG.out.2.1] at h8
        obtain ⟨v8, rfl, ho8⟩ := h8
        have HB8 := hid (HB7.out.trans (ho8.below.mono HB7.out.size))
        obtain ⟨S, hS⟩ : ∃ S, strOfNums E = S := ⟨_, rfl⟩
        have hcs := run_conv_str (P := Tryz.prog) Tryz.underlying27 Tryz.underlying5 Tryz.underlying9 ho8.sl
        have hct := run_conv_str (P := Tryz.prog) Tryz.underlying27 Tryz.underlying5 Tryz.underlying9 (HO7.out.below ho8.below)
        rw [hS] at hcs hct
        obtain ⟨a8, c8, rfl⟩ := ho8.sl.val
        clear ho8 hS HE7
        go_wp2
        go_ret
        exact ⟨by first | rfl | simp, HB8.out⟩
  · rw [if_neg h0] at h2
    obtain ⟨rfl, hb2⟩ := h2
    have HB4 := hid (HB1.out.trans (hb2.mono HB1.out.size))
    clear hb2 h0
    generalize clsFault c = z
    go_wp2
    go_ret
    exact ⟨rfl, HB4.out⟩
end Go.Proofs.YtnhhaefoilhlhaaGreatDoor.files
