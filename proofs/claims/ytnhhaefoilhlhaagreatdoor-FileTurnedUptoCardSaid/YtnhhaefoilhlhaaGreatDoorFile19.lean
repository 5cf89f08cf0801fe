/- The law FileTurned: its walk. Conditions: the class is not long, its code's numbers are of 64 bits; the variables that the library reads hold what they hold at the start. -/
import Derived.Test.YtnhhaefoilhlhaaGreatDoorFile18
import Derived.Test.YtnhhaefoilhlhaaGreatDoorTxt4
set_option linter.unusedSimpArgs false
set_option linter.unusedVariables false
namespace Go.Proofs.YtnhhaefoilhlhaaGreatDoor.files
open Go.RowKit Go.Proofs.YtnhhaefoilhlhaaGreatDoor.lib Go.Proofs.YtnhhaefoilhlhaaGreatDoor.errs Go.Proofs.YtnhhaefoilhlhaaGreatDoor.names Go.Proofs.YtnhhaefoilhlhaaGreatDoor.descs Go.Proofs.YtnhhaefoilhlhaaGreatDoor.ins Go.Proofs.YtnhhaefoilhlhaaGreatDoor.flows Go.Proofs.YtnhhaefoilhlhaaGreatDoor.hdls Go.Proofs.YtnhhaefoilhlhaaGreatDoor.classes Go.Proofs.YtnhhaefoilhlhaaGreatDoor.txts Go.Proofs.YtnhhaefoilhlhaaGreatDoor.nums Go.Proofs.YtnhhaefoilhlhaaGreatDoor.keep Go.Proofs.YtnhhaefoilhlhaaGreatDoor.grow Go.Proofs.YtnhhaefoilhlhaaGreatDoor.same
theorem index_u64 (a : Int) {m : Nat} (hm : 0 < m) : ∃ k : Nat, k < m ∧ (IntKind.u64.wrap a).tmod (m : Int) = (k : Int) := by
  have h0 : 0 ≤ IntKind.u64.wrap a := by
    have e : IntKind.u64.wrap a = a % (2 ^ 64 : Int) := rfl
    rw [e]
    exact Int.emod_nonneg _ (by decide)
  refine ⟨((IntKind.u64.wrap a).tmod (m : Int)).toNat, ?_, ?_⟩
  · rw [Int.tmod_eq_emod_of_nonneg h0]
    have h1 := Int.emod_lt_of_pos (IntKind.u64.wrap a) (show (0 : Int) < (m : Int) by omega)
    omega
  · rw [Int.tmod_eq_emod_of_nonneg h0]
    have h1 := Int.emod_nonneg (IntKind.u64.wrap a) (show (m : Int) ≠ 0 by omega)
    omega
theorem xor_u8 {x n : Int} (hx : 0 ≤ x ∧ x ≤ 255) (hn : 0 ≤ n ∧ n ≤ 255) : (0 ≤ bits BinOp.xor IntKind.u8 x n ∧ bits BinOp.xor IntKind.u8 x n ≤ 255) ∧ (bits BinOp.xor IntKind.u8 x n = x → n = 0) := by
  have e : bits BinOp.xor IntKind.u8 x n = ((BitVec.ofInt 8 x ^^^ BitVec.ofInt 8 n).toNat : Int) % 256 := rfl
  have hl := (BitVec.ofInt 8 x ^^^ BitVec.ofInt 8 n).isLt
  have e2 : bits BinOp.xor IntKind.u8 x n = ((BitVec.ofInt 8 x ^^^ BitVec.ofInt 8 n).toNat : Int) := by rw [e]; omega
  have ha : ((BitVec.ofInt 8 x).toNat : Int) = x := by
    rw [BitVec.toNat_ofInt]
    omega
  have hb : ((BitVec.ofInt 8 n).toNat : Int) = n := by
    rw [BitVec.toNat_ofInt]
    omega
  refine ⟨by rw [e2]; omega, fun h => ?_⟩
  rw [e2, ← ha] at h
  have h1 : (BitVec.ofInt 8 x ^^^ BitVec.ofInt 8 n).toNat = (BitVec.ofInt 8 x).toNat := by
    have h3 : ((BitVec.ofInt 8 (BitVec.ofInt 8 x).toNat ^^^ BitVec.ofInt 8 n).toNat : Int) = ((BitVec.ofInt 8 x).toNat : Int) := h
    rw [ha] at h3
    omega
  have h2 := BitVec.eq_of_toNat_eq h1
  have h3 : BitVec.ofInt 8 n = 0#8 := by
    have h4 := congrArg (fun v => BitVec.ofInt 8 x ^^^ v) h2
    simp only [← BitVec.xor_assoc, BitVec.xor_self, BitVec.zero_xor] at h4
    exact h4
  rw [h3] at hb
  simpa using hb.symm

set_option maxRecDepth 100000 in
set_option maxHeartbeats 8000000 in
theorem fileturned_any (c : CV) (at_ n : Int) (w : World) (hc : c.At w) (hv : Vars w) (hsm : SmallC c) (hn : ∀ m ∈ c.mets, ∀ x ∈ m.code, Small x ∧ InR x.a ∧ InR x.b) (hat : InR at_) (hnb : 0 ≤ n ∧ n ≤ 255) :
    Calls Tryz.prog 4 #[.agg c.cells.toArray, .int .i64 at_, .int .u8 n] w fun e w' => e = .returned (.bool true) ∧ Below w.heap.size w w' := by
  have HEN := hid (fun (u : World) (h : Below w.heap.size w u) => fencode_any c u (hc.below h) (hv.forms.below h) (hv.pow.below h) hsm hn)
  have HVV := hid (fun (u : World) (h : Below w.heap.size w u) => hv.below h)
  have HCS := hid (fun (u : World) (D : CV) (h : Below w.heap.size w u) (hD : D.At u) (hDs : FewC D) => class_same c D u (hc.below h) hD (few_small hsm) hDs)
  have HG : Hid (clsFault c = 0 → Bytes (cb c) ∧ okC (cb c) = some (bareC c)) := hid (fun h => ⟨cb_few h hn hsm, okC_cb h hn hsm⟩)
  obtain ⟨h6, hone⟩ := row_six hc
  obtain ⟨CR, hCR⟩ : ∃ CR, c.cells.toArray = CR := ⟨_, rfl⟩
  rw [hCR] at h6 hone
  simp only [hCR] at HEN HCS ⊢
  have H6 := hid h6
  obtain ⟨q, hq⟩ : ∃ q, w.heap.size = q := ⟨_, rfl⟩
  obtain ⟨W0, hW0⟩ : ∃ W0, w.alloc (.cells CR 26) = W0 := ⟨_, rfl⟩
  have HB0 : Hid (Below w.heap.size w W0) := hid (by subst hW0; exact ext_alloc _ _)
  have HX0 : Hid (W0.heap[q]? = some (.cells CR 26)) := hid (by subst hW0; rw [← hq]; exact heap_alloc_new _ _)
  clear hc hv hsm hn hCR hone
  go_enter Tryz.func4, Tryz.ntmps4
  go_wp2_with fail
  refine (filed_any W0 (HVV.out W0 HB0.out).forms (HVV.out W0 HB0.out).pow).mono ?_
  rintro e w1 ⟨rfl, hb1⟩
  have HB1 := hid (HB0.out.trans (hb1.mono HB0.out.size))
  have HX1 := hid ((hb1.block q (Array.getElem?_eq_some_iff.1 HX0.out).1).trans HX0.out)
  clear hb1 hW0
  go_wp2_with (refine wpList_load_row rfl 26 (.tmp 3) rfl q rfl _ _ _ _ HX1.out Tryz.underlying26 rfl (size_info H6.out) ?_)
  refine (HEN.out w1 HB1.out).mono ?_
  intro e w2 h2
  unfold FEncBy at h2
  by_cases h0 : clsFault c = 0
  · rw [if_pos h0] at h2
    obtain ⟨v2, rfl, ho2⟩ := h2
    have HG2 := hid (HG.out h0)
    have HB2 := hid (HB1.out.trans (ho2.below.mono HB1.out.size))
    have HPOS := hid (cb_some c)
    obtain ⟨E, hE⟩ : ∃ E, cb c = E := ⟨_, rfl⟩
    have HE := hid hE
    rw [hE] at ho2 HPOS HG2
    have HEB := hid HG2.out.1
    obtain ⟨m, hm⟩ : ∃ m, E.length = m := ⟨_, rfl⟩
    have HM := hid hm
    have HO2 : Hid (Sl w2 v2 m 1 (E.map (.int .u8))) := hid (by rw [← hm]; exact ho2.sl)
    have HX2 := hid ((ho2.below.block q (Array.getElem?_eq_some_iff.1 HX1.out).1).trans HX1.out)
    obtain ⟨a2, c2, rfl⟩ := ho2.sl.val
    rw [hm]
    have hm10 : m ≤ 10000000 := by have := HEB.out.2; omega
    have HMD := hid (Out.made w2 5 1)
    have HO2m := hid (HO2.out.below HMD.out.below)
    rw [hm] at HO2 HO2m
    clear hm ho2
    clear h0 hE
    by_cases hn0 : n = 0
    · have hn1 : (n == 0) = true := by simpa using hn0
      clear hn0
      go_wp2
      go_ret
      exact ⟨rfl, HB2.out⟩
    · have hn1 : (n == 0) = false := by simpa using hn0
      have HN0 := hid hn0
      have hm0 : 0 < m := by have := HPOS.out; have := HM.out; omega
      have hm1 : ((m : Int) == 0) = false := by simp; omega
      clear hn0
      go_wp2_with (at_builtin; refine wpList_append_src w2 _ rfl _ _ 27 rfl 5 _ 1 1 m Tryz.underlying27 infoB rfl (by decide) _ _ _ HMD.out rfl _ _ HO2m.out rfl (by intro u hu; obtain ⟨z, _, rfl⟩ := List.mem_map.1 hu; rfl) (by omega) (by omega) ?_)
      intro v3 w3 ho3 hg3
      have HO3 : Hid (Out w2 w3 5 1 v3 m (E.map (.int .u8))) := hid (by simpa using ho3)
      clear ho3 hg3
      obtain ⟨g, cap, rfl, hmc, hcl⟩ := HO3.out.shape (by have := HPOS.out; have := HM.out; omega)
      have HGL : Hid (w2.heap.size ≤ g ∧ g < w3.heap.size) := hid (HO3.out.own.lt g rfl)
      have HB3 := hid (HB2.out.trans (HO3.out.below.mono HB2.out.size))
      have HX3 := hid ((HO3.out.below.block q (Array.getElem?_eq_some_iff.1 HX2.out).1).trans HX2.out)
      have HCL := hid hcl
      clear hcl
      obtain ⟨k, hk, hz⟩ := index_u64 at_ hm0
      obtain ⟨g', cap', u, hv', hg', hcl, hfz, hset⟩ := HO3.out.store hk
      simp only [Value.slice.injEq, Option.some.injEq, Addr.mk.injEq, and_true, true_and] at hv'
      obtain ⟨rfl, rfl⟩ := hv'
      have hke : k < E.length := by rw [HM.out]; exact hk
      obtain rfl : u = .int .u8 E[k] := by
        have h1 := HCL.out k (.int .u8 E[k]) (by rw [List.getElem?_map, List.getElem?_eq_getElem hke]; rfl)
        rw [hcl] at h1
        exact Option.some.inj h1
      obtain ⟨x, hx⟩ : ∃ x, E[k] = x := ⟨_, rfl⟩
      rw [hx] at hcl
      have hxb := HEB.out.1 x (by rw [← hx]; exact List.getElem_mem hke)
      obtain ⟨hzb, hzn⟩ := xor_u8 hxb hnb
      obtain ⟨z, hzz⟩ : ∃ z, bits BinOp.xor IntKind.u8 x n = z := ⟨_, rfl⟩
      rw [hzz] at hzb hzn
      obtain ⟨W3, hW3⟩ : ∃ W, w3.setCell ⟨g, k, none⟩ (.int .u8 z) = W := ⟨_, rfl⟩
      have HT3 : Hid (Out w2 W3 5 1 (.slice (some ⟨g, 0, none⟩) m cap) m ((E.set k z).map (.int .u8))) := hid (by
        subst hW3
        have := hset (.int .u8 z)
        rwa [← List.map_set] at this)
      have HK3 : Hid (Keeps (fun j => j = g) w3 W3) := hid (by subst hW3; exact Keeps.set w3 g k _)
      have HBT := hid (HB2.out.trans (HT3.out.below.mono HB2.out.size))
      have HXT := hid ((HT3.out.below.block q (Array.getElem?_eq_some_iff.1 HX2.out).1).trans HX2.out)
      have HEN3 : Hid ((E.set k z).length = m) := hid (by rw [List.length_set]; exact HM.out)
      have HNE3 : Hid (E.set k z ≠ E) := hid (fun h => by
        have h1 : (E.set k z)[k]? = E[k]? := by rw [h]
        rw [List.getElem?_set_self hke, List.getElem?_eq_getElem hke, hx] at h1
        exact HN0.out (hzn (Option.some.inj h1)))
      have HBY3 : Hid (Bytes (E.set k z)) := hid ⟨fun y hy => by
        rcases List.mem_or_eq_of_mem_set hy with hy | rfl
        · exact HEB.out.1 y hy
        · exact hzb, by rw [List.length_set]; exact HEB.out.2⟩
      have HD4 := hid (fdecode_any (.slice (some ⟨g, 0, none⟩) m cap) (E.set k z) W3 (by rw [HEN3.out]; exact HT3.out.sl) HBY3.out (HVV.out W3 HBT.out))
      have hki : (0 : Int) ≤ (k : Int) := by omega
      have hkl : (k : Int) < (m : Int) := by omega
      clear hset hzb hzn hxb hx hke
      go_wp2_with fail
      refine HD4.out.mono ?_
      intro e w5 h5
      cases hok : okC (E.set k z) with
      | none =>
        obtain ⟨hbd, hd⟩ := h5
        rw [hok] at hd
        subst hd
        have HB5 := hid (HBT.out.trans (hbd.mono HBT.out.size))
        have HX5 := hid ((hbd.block q (Array.getElem?_eq_some_iff.1 HXT.out).1).trans HXT.out)
        obtain ⟨g5, hg5⟩ : ∃ g, w5.heap.size = g := ⟨_, rfl⟩
        obtain ⟨WA5, hWA5⟩ : ∃ W, w5.alloc (.cells #[.string { data := #[] }, .string { data := #[] }, .slice none 0 0, .bool false, .slice none 0 0, .slice none 0 0] 26) = W := ⟨_, rfl⟩
        have A5 : Hid (WA5.heap[g5]? = some (.cells #[.string { data := #[] }, .string { data := #[] }, .slice none 0 0, .bool false, .slice none 0 0, .slice none 0 0] 26)) := hid (by subst hWA5; rw [← hg5]; exact heap_alloc_new _ _)
        have KA5 : Hid (Below w5.heap.size w5 WA5) := hid (by subst hWA5; exact ext_alloc _ _)
        obtain ⟨WB5, hWB5⟩ : ∃ W, WA5.setRow g5 #[.string { data := #[] }, .string { data := #[] }, .slice none 0 0, .bool false, .slice none 0 0, .slice none 0 0] = W := ⟨_, rfl⟩
        have Y5 : Hid (WB5.heap[g5]? = some (.cells #[.string { data := #[] }, .string { data := #[] }, .slice none 0 0, .bool false, .slice none 0 0, .slice none 0 0] 26)) := hid (by subst hWB5; exact setRow_heap WA5 g5 _ _ _ _ A5.out)
        have KB5 : Hid (Below w5.heap.size w5 WB5) := hid (by subst hWB5; exact Keeps.below KA5.out KA5.out.size (keeps_rowF WA5 g5 _) (fun k hk => by omega))
        have HBB5 := hid (HB5.out.trans (KB5.out.mono HB5.out.size))
        have HXB5 := hid ((KB5.out.block q (Array.getElem?_eq_some_iff.1 HX5.out).1).trans HX5.out)
        have HZ5 := hid (HCS.out WB5 zeroC HBB5.out (zeroC_at _) zeroC_few)
        rw [zeroC_row] at HZ5
        obtain ⟨i_, hi_, hc_⟩ := errno_info
        have he := fun w : World => run_eql_iface_int (P := Tryz.prog) w 1 1 Tryz.underlying30 Tryz.underlying36 hi_ hc_
        clear hbd hi_ hc_
        go_wp2_with (first | (refine wpList_store_row rfl 26 (.tmp 11) (.tmp 50) rfl g5 #[.string { data := #[] }, .string { data := #[] }, .slice none 0 0, .bool false, .slice none 0 0, .slice none 0 0] rfl rfl 26 _ A5.out (by kernel_rfl) rfl (by simp [Value.oneCell']) ?_) | (refine wpList_load_row rfl 26 (.tmp 3) rfl q rfl _ _ _ _ HXB5.out Tryz.underlying26 rfl (size_info H6.out) ?_) | (refine wpList_load_row rfl 26 (.tmp 11) rfl g5 rfl _ _ _ _ Y5.out Tryz.underlying26 rfl (by kernel_rfl) ?_))
        refine HZ5.out.mono ?_
        rintro e w6 ⟨r, rfl, _, hb6⟩
        have HB6 := hid (HBB5.out.trans (hb6.mono HBB5.out.size))
        clear hb6 hWB5 hWA5 hg5 HZ5
        go_wp2
        go_ret
        exact ⟨rfl, HB6.out⟩
      | some c0 =>
        obtain ⟨hbd, hd⟩ := h5
        have HBT5 := hid hbd
        rw [hok] at hd
        obtain ⟨D5, hD5, hm5, rfl⟩ := hd
        have HD5 := hid hD5
        have HM5 := hid hm5
        have HB5 := hid (HBT.out.trans (hbd.mono HBT.out.size))
        obtain ⟨hs6_, hone_⟩ := row_six hm5.at_
        obtain ⟨DR5, hDR5⟩ : ∃ R, D5.cells.toArray = R := ⟨_, rfl⟩
        have HDR5 := hid hDR5
        rw [hDR5] at hs6_ hone_ ⊢
        have HS5 := hid hs6_
        have HO5 := hid hone_
        obtain ⟨g5, hg5⟩ : ∃ g, w5.heap.size = g := ⟨_, rfl⟩
        have HGG5 := hid hg5
        obtain ⟨WA5, hWA5⟩ : ∃ W, w5.alloc (.cells #[.string { data := #[] }, .string { data := #[] }, .slice none 0 0, .bool false, .slice none 0 0, .slice none 0 0] 26) = W := ⟨_, rfl⟩
        have A5 : Hid (WA5.heap[g5]? = some (.cells #[.string { data := #[] }, .string { data := #[] }, .slice none 0 0, .bool false, .slice none 0 0, .slice none 0 0] 26)) := hid (by subst hWA5; rw [← hg5]; exact heap_alloc_new _ _)
        have KA5 : Hid (Below w5.heap.size w5 WA5) := hid (by subst hWA5; exact ext_alloc _ _)
        obtain ⟨WB5, hWB5⟩ : ∃ W, WA5.setRow g5 DR5 = W := ⟨_, rfl⟩
        have Y5 : Hid (WB5.heap[g5]? = some (.cells DR5 26)) := hid (by subst hWB5; exact setRow_heap WA5 g5 _ _ _ _ A5.out)
        have KB5 : Hid (Below w5.heap.size w5 WB5) := hid (by subst hWB5; exact Keeps.below KA5.out KA5.out.size (keeps_rowF WA5 g5 _) (fun k hk => by omega))
        have HBB5 := hid (HB5.out.trans (KB5.out.mono HB5.out.size))
        have HMB5 := hid (HM5.out.keeps (Keeps.of_below (F := fun _ => False) KB5.out) (fun k hk => hk.elim))
        clear hbd hD5 hm5 hDR5 hs6_ hone_
        have HMG := hid (made_good hok HBY3.out HD5.out)
        have HX5 := hid ((HBT5.out.block q (Array.getElem?_eq_some_iff.1 HXT.out).1).trans HXT.out)
        have HXB5 := hid ((KB5.out.block q (Array.getElem?_eq_some_iff.1 HX5.out).1).trans HX5.out)
        have HNB : Hid (¬ bareC c = bareC D5) := hid (fun h => HNE3.out (by rw [← HMG.out.2.1, ← cb_bare D5, ← h, cb_bare, HE.out]))
        have HC5 := hid (HCS.out WB5 D5 HBB5.out HMB5.out.at_ (few_small HMG.out.2.2.1))
        rw [HDR5.out] at HC5
        have hnf : ∀ u : World, (binOp .eql 30 .nilIface (.iface 36 (.int .i64 1))).run Tryz.prog u = .ok (.bool false) u := fun u => by
          have h : ∀ d : Nat, (Op.equalIn (d + 1) 30 .nilIface (.iface 36 (.int .i64 1))).run Tryz.prog u = .ok false u := fun d => by simp [Op.equalIn, run_underlying Tryz.underlying30]
          simp only [binOp]
          simp [Op.equal, Op.maxDepth, h, Result.andThen]
        clear hok
        go_wp2_with (first | (refine wpList_store_row rfl 26 (.tmp 11) (.tmp 50) rfl g5 DR5 rfl rfl 26 _ A5.out (size_info HS5.out) HS5.out.symm HO5.out ?_) | (refine wpList_load_row rfl 26 (.tmp 3) rfl q rfl _ _ _ _ HXB5.out Tryz.underlying26 rfl (size_info H6.out) ?_) | (refine wpList_load_row rfl 26 (.tmp 11) rfl g5 rfl _ _ _ _ Y5.out Tryz.underlying26 rfl (size_info HS5.out) ?_))
        refine HC5.out.mono ?_
        rintro e w7 ⟨r, rfl, hr, hb7⟩
        obtain rfl : r = false := by
          cases r with
          | false => rfl
          | true => exact absurd (hr.1 rfl) HNB.out
        have HB7 := hid (HBB5.out.trans (hb7.mono HBB5.out.size))
        clear hb7 hr hWB5 hWA5 hg5 HC5
        go_wp2
        go_ret
        exact ⟨rfl, HB7.out⟩
  · rw [if_neg h0] at h2
    obtain ⟨rfl, hb2⟩ := h2
    have HB4 := hid (HB1.out.trans (hb2.mono HB1.out.size))
    clear hb2 h0
    generalize clsFault c = z
    go_wp2
    go_ret
    exact ⟨rfl, HB4.out⟩
end Go.Proofs.YtnhhaefoilhlhaaGreatDoor.files
