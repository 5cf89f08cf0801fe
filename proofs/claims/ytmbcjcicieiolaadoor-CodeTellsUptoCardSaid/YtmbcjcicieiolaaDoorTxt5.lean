/- Instructions as bytes, as the document does it: CodeBytes. Conditions: right instructions, their texts are not long, their numbers are of 64 bits. -/
import Derived.Test.YtmbcjcicieiolaaDoorTxt4
import Derived.Test.YtmbcjcicieiolaaDoorTxt3E
import Derived.Laws.IdiomStrings
set_option linter.unusedSimpArgs false
set_option linter.unusedVariables false
namespace Go.Proofs.YtmbcjcicieiolaaDoor.txts
open Go.RowKit Go.Proofs.YtmbcjcicieiolaaDoor.lib Go.Proofs.YtmbcjcicieiolaaDoor.errs Go.Proofs.YtmbcjcicieiolaaDoor.names Go.Proofs.YtmbcjcicieiolaaDoor.descs Go.Proofs.YtmbcjcicieiolaaDoor.ins Go.Proofs.YtmbcjcicieiolaaDoor.nums Go.Proofs.YtmbcjcicieiolaaDoor.flows

theorem rinstext_any (op a b : Int) (t c n : ByteArray) (w : World) (hs : Small ⟨op, a, b, t, c, n⟩) (ha : InR a) (hb : InR b) (h0 : insFault ⟨op, a, b, t, c, n⟩ = 0) :
    Calls Tryd.prog 41 #[.agg #[.int .i64 op, .int .i64 a, .int .i64 b, .string t, .string c, .string n]] w fun e w' => e = .returned (.string (bs (textL ⟨op, a, b, t, c, n⟩))) ∧ Below w.heap.size w w' := by
  obtain ⟨k, wd, nd, hk, h1, h2, hp2, e⟩ := form_of h0
  obtain ⟨_, _, h3, h4⟩ := brief_of h0
  simp only at hk h3 h4
  subst hk
  rw [e]
  exact rtext_any k a b t c n w hs.1 (by omega) (by omega) ha hb wd nd hp2 h1 h2

theorem one_u8 (l : List Int) : ∀ u ∈ l.map (Value.int .u8), u.oneCell' = true := fun u hu => by
  obtain ⟨z, _, rfl⟩ := List.mem_map.1 hu
  rfl
theorem one_str (s : ByteArray) : ∀ u ∈ Lib.strCells s, u.oneCell' = true := fun u hu => by
  obtain ⟨z, _, rfl⟩ := List.mem_map.1 hu
  rfl
theorem sl_bytes (W : World) (s : ByteArray) (cap : Nat) (h : s.size ≤ cap) (fz : Nat × Nat) : Sl (W.alloc (.cells (bytesRow s cap) 5 fz)) (.slice (some ⟨W.heap.size, 0, none⟩) s.size cap) s.size 1 (Lib.strCells s) := by
  refine ⟨by rw [Lib.strCells_length]; omega, _, _, rfl, h, .inr ⟨_, _, rfl, fun j u hu => ?_⟩⟩
  have hj : j < s.data.size := by
    have := (List.getElem?_eq_some_iff.1 hu).1
    rw [Lib.strCells_length] at this
    exact this
  have hrow : (W.alloc (.cells (bytesRow s cap) 5 fz)).heap[W.heap.size]? = some (.cells (bytesRow s cap) 5 fz) := by
    show (W.heap.push _)[W.heap.size]? = _
    simp
  rw [Nat.zero_add, cell_of_row _ _ _ _ _ _ hrow]
  rw [show (bytesRow s cap)[j]? = some (.int .u8 (s.data[j].toNat : Int)) from bytesRow_at s cap j hj, ← hu]
  unfold Lib.strCells
  rw [List.getElem?_map, Array.getElem?_toList, Array.getElem?_eq_getElem hj]
  rfl

set_option maxRecDepth 100000 in
set_option maxHeartbeats 4000000 in
theorem rbytes_any (va : Value) (l : List I) (w : World) (ha : Go.Proofs.YtmbcjcicieiolaaDoor.flows.Code w va l) (hs : ∀ x ∈ l, Small x ∧ InR x.a ∧ InR x.b) (h40 : l.length ≤ 40) (h0 : ∀ x ∈ l, insFault x = 0) :
    Calls Tryd.prog 25 #[va] w fun e w' => ∃ v, e = .returned v ∧ Out w w' 5 1 v (encTo l l.length).length ((encTo l l.length).map (.int .u8)) := by
  have HA := hid ha; have HS := hid hs; have H0 := hid h0
  obtain ⟨a, c, rfl⟩ := ha.val
  clear ha hs h0
  have HW : Hid (∀ k, Written l k) := hid (fun k j hj _ => H0.out _ (List.getElem_mem hj))
  have HE256 : Hid ((l.length : Int) % 256 = l.length) := hid (by omega)
  have HL0 := hid (Out.lit w #[.int .u8 (l.length : Int)] 5 1 1 rfl (by unfold maxLen; omega))
  go_enter Tryd.func25, Tryd.ntmps25
  go_wp2_with fail
  go_loopw [3, 4] (fun v i wr => ∃ k : Nat, k ≤ l.length ∧ i = .int .i64 k ∧ Hid (Out w wr 5 1 v (encTo l k).length ((encTo l k).map (.int .u8)))) (fun _ i _ => l.length - (intOf i).toNat)
  case atStart => exact ⟨0, Nat.zero_le _, rfl, hid (by simpa [encTo, HE256.out] using HL0.out)⟩
  case round =>
    obtain ⟨k, hk, rfl, HO⟩ := hrel
    obtain ⟨av, cv, hvv⟩ := HO.out.sl.val
    subst hvv
    by_cases hlt : k < l.length
    · obtain ⟨bb, off, hab, hd0, hd1, hd2, hd3, hd4, hd5⟩ := code_at (HA.out.below HO.out.below) hlt
      subst hab
      have hi : (0 : Int) ≤ (k : Int) := by omega
      have hkl : (k : Int) < (l.length : Int) := by omega
      have HSX := hid (HS.out _ (List.getElem_mem hlt))
      have H0X := hid (H0.out _ (List.getElem_mem hlt))
      have HNX := hid (enc_next hlt)
      have HEL := hid (enc_len_to (l := l) (fun x hx => HS.out x hx) 40000001 (Nat.le_refl _) k (HW.out k))
      generalize l[k] = x at hd0 hd1 hd2 hd3 hd4 hd5 HSX HNX H0X
      obtain ⟨op, xa, xb, t, xc, xn⟩ := x
      simp only at hd0 hd1 hd2 hd3 hd4 hd5 HSX
      have HT := hid (rinstext_any op xa xb t xc xn wr HSX.out.1 HSX.out.2.1 HSX.out.2.2 H0X.out)
      have htl := text_len H0X.out HSX.out.1 HSX.out.2.1 HSX.out.2.2
      obtain ⟨T, hT⟩ : ∃ T, textL ⟨op, xa, xb, t, xc, xn⟩ = T := ⟨_, rfl⟩
      rw [hT] at HT htl HNX
      obtain ⟨S, hS⟩ : ∃ S, bs T = S := ⟨_, rfl⟩
      have hSz : (S.size : Int) = (T.length : Int) := by rw [← hS]; rfl
      have hSn : S.size = T.length := by rw [← hS]; rfl
      have HSC : Hid (Lib.strCells S = (T.map fun b => (b.toNat : Int)).map (.int .u8)) := hid (by rw [← hS]; show (bs T).data.toList.map _ = _; rw [bs_data, List.map_map]; rfl)
      rw [hS] at HT
      have hNb : (encTo l k).length ≤ 1700000000 := by
        have h1 := HEL.out
        have h2 : k ≤ 40 := by omega
        have h3 := Nat.mul_le_mul_right 40000001 h2
        omega
      have HSN := hid hSn
      clear hT hS
      go_wp2_with fail
      refine HT.out.mono ?_
      rintro e w3 ⟨rfl, hb3⟩
      have HO3 := hid (HO.out.later hb3)
      clear hb3
      go_wp2_with (at_builtin; refine wpList_append_lit_b w _ _ _ rfl _ _ 52 rfl 5 (.int .u8 0) 1 1 1 Tryd.underlying52 infoB rfl (by decide) _ _ _ HO3.out rfl rfl ?_ rfl ?_ ?_ ?_ ?_)
      all_goals first | (intro v4 w4 ho4 _ _) | omega | (simp [Value.oneCell']; done) | skip
      have HO4 := hid ho4
      obtain ⟨a4, c4, hv4⟩ := ho4.sl.val
      subst hv4
      clear ho4
      have hcv := run_bytes_of_string (P := Tryd.prog) w4 9 52 5 S Tryd.underlying9 Tryd.underlying52 Tryd.underlying5
      have hge := grownCap_ge w4 S.size 0 5
      generalize grownCap w4 S.size 0 5 = cap at hcv hge
      have HSL0 := hid (sl_bytes w4.drew S cap hge ((bytesRow S cap).size, (bytesRow S cap).size + 1))
      have HO50 := hid (HO4.out.drew.alloc (.cells (bytesRow S cap) 5 ((bytesRow S cap).size, (bytesRow S cap).size + 1)))
      obtain ⟨W5, hW5⟩ : ∃ W5, w4.drew.alloc (.cells (bytesRow S cap) 5 ((bytesRow S cap).size, (bytesRow S cap).size + 1)) = W5 := ⟨_, rfl⟩
      rw [hW5] at hcv HSL0 HO50
      rw [HSN.out] at hcv HSL0
      have HSL : Hid (Sl W5 (.slice (some ⟨w4.heap.size, 0, none⟩) T.length cap) T.length 1 (Lib.strCells S)) := HSL0
      have HOS := hid (one_str S)
      clear hW5 hge
      go_wp2_with (at_builtin; refine wpList_append_src w W5 rfl _ _ 52 rfl 5 (.int .u8 0) 1 1 T.length Tryd.underlying52 infoB rfl (by decide) _ _ _ HO50.out rfl _ (Lib.strCells S) HSL.out rfl HOS.out ?_ ?_ ?_)
      all_goals first | (intro v6 w6 ho6 _) | omega | skip
      have HO6 : Hid (Out w w6 5 1 v6 (encTo l (k + 1)).length ((encTo l (k + 1)).map (.int .u8))) := hid (by
        rw [HNX.out, List.map_append, List.map_append, List.length_append, List.length_append, List.length_map, List.length_singleton, ← HSC.out, List.append_assoc]
        first | exact ho6 | (rw [← HSN.out]; exact ho6))
      clear ho6
      go_wp2
      go_roundw
      case rel => exact ⟨k + 1, by omega, by go_num, HO6⟩
      case measure => simp [intOf]; omega
    · have e : k = l.length := by omega
      have hge : ¬ (k : Int) < (l.length : Int) := by omega
      subst e
      go_wp2
      go_ret
      exact ⟨_, rfl, HO.out⟩
end Go.Proofs.YtmbcjcicieiolaaDoor.txts
