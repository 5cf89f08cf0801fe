/- run.Call, where all is well. Conditions: the list is of plain classes and right, the method is there, the arguments fit, the steps are known. -/
import Derived.Maps.RangeWalk
import Derived.Test.YtloonnfelgokmaaGreatDoorZRunB
set_option maxRecDepth 100000
set_option maxHeartbeats 16000000
set_option linter.unusedSimpArgs false
set_option linter.unusedVariables false
namespace Go.Proofs.YtloonnfelgokmaaGreatDoor.worlds
open Go.RowKit lib maps classes errs descs names grow keep ins nums flows hdls
theorem MM.init {w : World} {b : Nat} {W : WL} (h : Wd w b W) : MM w (w.alloc (.cells #[.map (some b), .slice none 0 0, .slice none 0 0, .int .i64 0, .int .i64 0, .string { data := #[] }, .int .i64 0, .bool false] 81)) w.heap.size b W (.slice none 0 0) (.slice none 0 0) [] [] ⟨[], []⟩ ⟨noV, noB⟩ 0 false :=
 ⟨heap_alloc_new _ _, Nat.le_refl _, h, (HeapAt.nil w).later (ext_alloc w _), rfl, (Out.nil w _ _).later (ext_alloc w _), trivial, (fun e => by cases e), (fun q hq => by
  rcases hq with e | ⟨x, hx, _⟩
  ·cases e
  ·cases hx), Nat.zero_le _⟩
theorem run_fieldm (v0 v1 v2 v3 v4 : Value) (a : Option Addr) (n c : Nat) (w : World) : (Instr.field 28 (.agg #[v0, v1, v2, v3, v4, .slice a n c]) 5).run Tryz.prog w = .ok (.slice a n c) w := by
 simp [Instr.field, run_underlying Tryz.underlying28]
 first | rfl | kernel_rfl | (go_simp; done) | (go_simp; rfl)
theorem rcall_good (va : Value) (l : List CV) (w : World) (hl : Clss w va l) (hf : FormsAt w) (hsm : ∀ c ∈ l, SmallC c) (hn : l.length ≤ 1048576) (hp : ∀ c ∈ l, PlainC c) (hc : checkF l = 0) (W : WL) (hW : (readW l).2 = W)
  (cls nm kd : ByteArray) (i : Nat) (hi : i < (cAt W cls).mets.length) (hml : (cAt W cls).mets.length ≤ 1000000) (hix : idxM nm kd (cAt W cls).mets = (i : Int)) (hst : ((cAt W cls).mets[i]).st = true) (lo : Nat) (hlo : ((cAt W cls).mets[i]).lo = (lo : Int)) (hlo1 : lo ≤ 1000000)
  (fuel N : Nat) (hfu : fuel ≤ 2000) (hN : N ≤ fuel) (hN0 : 0 < N) (ts : List (List UInt8)) (g : List UInt8) (hkd : methodOf kd.data.toList = some (ts, g)) (hks : kd.size ≤ 10000000)
  (ad : Addr) (na ca : Nat) (args : List Vl) (ha : Vls w (.slice (some ad) na ca) args) (hna : args.length = na) (hts : ts.length = na) (hal : na ≤ lo) (hna1 : na ≤ 1000000)
  (hd : ∀ j (h1 : j < args.length) (h2 : j < ts.length), doesV W [] args[j] ts[j] = true) (hty : ∀ t ∈ ts, isTy t = true)
  (K : Nat → Mac) (T : Nat → Told) (hT0 : T 0 = ⟨noV, noB⟩) (hK0 : K 0 = ⟨[], [⟨cls, (cAt W cls).mets[i], 0, args ++ List.replicate (lo - na) noV, []⟩]⟩)
  (hsteps : ∀ (w0 : World) (M b k : Nat), k < N → ∀ (u : World) (vT vC : Value) (G : List Th) (Bs : List Nat) (s : Nat), MM w0 u M b W vT vC G Bs (K k) (T k) s false → Calls Tryz.prog 59 #[.pointer (some ⟨M, 0, none⟩)] u fun e w' => e = .returned (.tuple #[]) ∧ OthT u w' ∧ ∃ vT vC G Bs, MM w0 w' M b W vT vC G Bs (K (k + 1)) (T (k + 1)) s (decide (k + 1 = N))) :
  Calls Tryz.prog 9 #[va, .string cls, .string nm, .string kd, .slice (some ad) na ca, .int .i64 (fuel : Int)] w fun e w' => e = .returned (.tuple #[.agg #[.int .i64 (T N).v.k, .int .i64 (T N).v.n, .string (T N).thrown, .int .i64 (N : Int)], .nilIface]) ∧ Below w.heap.size w w' := by
 obtain ⟨b1, hb1⟩ : ∃ b, w.heap.size = b := ⟨_, rfl⟩
 obtain ⟨w1, hw1⟩ : ∃ w1, w.alloc (.cells #[.string nm] 9) = w1 := ⟨_, rfl⟩
 obtain ⟨b2, hb2⟩ : ∃ b, w1.heap.size = b := ⟨_, rfl⟩
 obtain ⟨w2, hw2⟩ : ∃ w2, w1.alloc (.cells #[.string kd] 9) = w2 := ⟨_, rfl⟩
 obtain ⟨b3, hb3⟩ : ∃ b, w2.heap.size = b := ⟨_, rfl⟩
 obtain ⟨w3, hw3⟩ : ∃ w3, w2.alloc (.cells #[.int .i64 0, .int .i64 0, .string { data := #[] }, .int .i64 0] 38) = w3 := ⟨_, rfl⟩
 have B1 : Below w.heap.size w w1 := hw1 ▸ ext_alloc _ _
 have B2 : Below w1.heap.size w1 w2 := hw2 ▸ ext_alloc _ _
 have B3 : Below w2.heap.size w2 w3 := hw3 ▸ ext_alloc _ _
 have r1 : w1.heap[b1]? = some (.cells #[.string nm] 9 (0, 0)) := by rw [← hw1, ← hb1]; exact heap_alloc_new _ _
 have r2 : w2.heap[b2]? = some (.cells #[.string kd] 9 (0, 0)) := by rw [← hw2, ← hb2]; exact heap_alloc_new _ _
 have r3 : w3.heap[b3]? = some (.cells #[.int .i64 0, .int .i64 0, .string { data := #[] }, .int .i64 0] 38 (0, 0)) := by rw [← hw3, ← hb3]; exact heap_alloc_new _ _
 have HLE3 : Hid (w.heap.size ≤ b3) := hid (by rw [← hb3]; exact Nat.le_trans B1.size B2.size)
 have HB3 : Hid (Below w.heap.size w w3) := hid (B1.trans ((B2.trans (B3.mono B2.size)).mono B1.size))
 have HX : Hid (∀ u, Below w3.heap.size w3 u → u.heap[b1]? = some (.cells #[.string nm] 9 (0, 0)) ∧ u.heap[b2]? = some (.cells #[.string kd] 9 (0, 0)) ∧ u.heap[b3]? = some (.cells #[.int .i64 0, .int .i64 0, .string { data := #[] }, .int .i64 0] 38 (0, 0))) := hid (fun u hu => ⟨(((B2.trans (B3.mono B2.size)).trans (hu.mono (B2.trans (B3.mono B2.size)).size)).block _ (zh r1).1).trans r1, ((B3.trans (hu.mono B3.size)).block _ (zh r2).1).trans r2, (hu.block _ (zh r3).1).trans r3⟩)
 have HL := hid hl; have HF := hid hf; have HSM := hid hsm; have HP := hid hp; have HC := hid hc; have HWW := hid hW; have HK0 := hid hK0; have HT0 := hid hT0; have HST := hid hsteps; have HA := hid ha; have HD := hid hd; have HTY := hid hty; have HKD := hid hkd; have HIX := hid hix; have HMS := hid hst; have HLO := hid hlo; have HII := hid hi
 have HNA := hid hna; have HTS := hid hts
 obtain ⟨al, cl, rfl⟩ := hl.val
 clear hl hf hsm hp hc hW hK0 hT0 hsteps ha hd hty hkd B1 B2 B3 r1 r2 r3 hix hst hlo hna hts
 go_enter Tryz.func9, Tryz.ntmps9
 go_wp2_with fail
 refine (cread_any _ l w3 (HL.out.below HB3.out) (HF.out.below HB3.out) HSM.out hn HP.out).mono ?_
 rintro e w4 ⟨hb4, h4⟩
 rw [if_pos HC.out, HWW.out] at h4
 obtain ⟨rfl, hwd⟩ := h4
 have HB34 := hid hb4
 have HWD := hid hwd
 obtain ⟨b, hb⟩ : ∃ b, w3.heap.size = b := ⟨_, rfl⟩
 rw [hb] at HWD ⊢
 obtain ⟨q, r, a1, d1, a2, d2, a3, d3, hsh, hcs⟩ := cls_shape HWD.out.at_ cls
 have hat := HWD.out.at_.at_ cls
 obtain ⟨mets, hmets⟩ : ∃ m, (cAt W cls).mets = m := ⟨_, rfl⟩
 have hil : i < mets.length := hmets ▸ HII.out
 have HK2 : Hid (K 0 = ⟨[], [⟨cls, mets[i], 0, args ++ List.replicate (lo - na) noV, []⟩]⟩) := hid (by rw [HK0.out]; simp only [hmets])
 have HIX2 : Hid (idxM nm kd mets = (i : Int)) := hid (by rw [← hmets]; exact HIX.out)
 have HMS2 : Hid (mets[i].st = true ∧ mets[i].lo = (lo : Int)) := hid (by
  have h1 := HMS.out
  have h2 := HLO.out
  simp only [hmets] at h1 h2
  exact ⟨h1, h2⟩)
 rw [hmets] at hsh
 have HME : Hid (Mets w4 (.slice a3 mets.length d3) mets) := hid (by
  have h1 := hat.mets
  rw [hmets] at h1
  have h2 : (cAt W cls).vm = .slice a3 mets.length d3 := by
   have h3 := congrArg (fun a : Array Value => a[5]?) hsh
   simpa [CV.cells] using h3
  rwa [h2] at h1)
 have HSH := hid hsh
 have HLK : Hid (∀ u, Below w4.heap.size w4 u → (Instr.lookup 64 (.map (some b)) (.string cls) false).run Tryz.prog u = .ok (.agg #[.string q, .string r, .slice a1 (cAt W cls).faces.length d1, .bool (cAt W cls).face, .slice a2 (cAt W cls).fields.length d2, .slice a3 mets.length d3]) u) := hid (fun u hu => by rw [world_look (HWD.out.below hu).at_ cls, HSH.out])
 have hlk := HLK.out w4 (Below.refl _ _)
 have hfl := fun u => run_fieldm (.string q) (.string r) (.slice a1 (cAt W cls).faces.length d1) (.bool (cAt W cls).face) (.slice a2 (cAt W cls).fields.length d2) a3 mets.length d3 u
 have hmf : ∀ (fn : Fn) (first cap : Array Value) (w : World), (Instr.makeFunc fn first cap).run Tryz.prog w = .ok (.func fn first cap) w := fun _ _ _ _ => rfl
 have HML : Hid (mets.length ≤ 1000000) := hid (by rw [← hmets]; exact hml)
 obtain ⟨nM, hnM⟩ : ∃ n, mets.length = n := ⟨_, rfl⟩
 have HNM := hid hnM
 rw [hnM] at hlk hfl hil
 clear hsh hcs hat hmets hwd hb4 hnM hw1 hw2 hw3
 have HX4 : Hid (∀ u, Below w4.heap.size w4 u → u.heap[b1]? = some (.cells #[.string nm] 9 (0, 0)) ∧ u.heap[b2]? = some (.cells #[.string kd] 9 (0, 0)) ∧ u.heap[b3]? = some (.cells #[.int .i64 0, .int .i64 0, .string { data := #[] }, .int .i64 0] 38 (0, 0))) := hid (fun u hu => HX.out u (HB34.out.trans (hu.mono HB34.out.size)))
 have HB4 : Hid (Below w.heap.size w w4) := hid (HB3.out.trans (HB34.out.mono HB3.out.size))
 clear HX hml
 go_wp2_with fail
 refine (rindex_any (.slice a3 nM d3) mets nm kd b1 b2 w4 (HNM.out ▸ HME.out) (by rw [cell_of_row _ _ _ _ _ _ (HX4.out w4 (Below.refl _ _)).1]; rfl) (by rw [cell_of_row _ _ _ _ _ _ (HX4.out w4 (Below.refl _ _)).2.1]; rfl) (by have := HML.out; omega)).mono ?_
 rintro e w5 ⟨rfl, hb5⟩
 rw [HIX2.out]
 have HB45 := hid hb5
 have hil0 : i < mets.length := by rw [HNM.out]; exact hil
 have hlk5 := HLK.out w5 hb5
 rw [HNM.out] at hlk5
 have hme5 : Mets w5 (.slice a3 mets.length d3) mets := by
  have := HME.out
  exact ⟨this.sl.below hb5, fun x hx => (this.at_ x hx).below hb5⟩
 obtain ⟨bb, off, hab, c0, c1, c2, c3, c4, c5, c6, c7⟩ := met_at hme5 hil0
 subst hab
 have hat5 := hme5.at_ _ (List.getElem_mem hil0)
 have HKM := hid HK2.out
 have HMS3 := hid HMS2.out
 generalize mets[i] = m at c0 c1 c2 c3 c4 c5 c6 c7 hat5 HKM HMS3
 obtain ⟨mn, mt, ms, ma, mp, ml, vc, vh, code, hs⟩ := m
 obtain ⟨hms, hml⟩ := HMS3.out
 simp only at hms hml c0 c1 c2 c3 c4 c5 c6 c7
 subst hms hml
 obtain ⟨ac, cc, hvc⟩ := hat5.code.val
 obtain ⟨ah, ch, hvh⟩ := hat5.hs.val
 simp only at hvc hvh
 subst hvc hvh
 have HAT5 := hid hat5
 obtain ⟨nc, hnc⟩ : ∃ n, code.length = n := ⟨_, rfl⟩
 obtain ⟨nh, hnh⟩ : ∃ n, hs.length = n := ⟨_, rfl⟩
 have HNC := hid hnc
 have HNH := hid hnh
 rw [hnc] at c6
 rw [hnh] at c7
 have hi0 : (0 : Int) ≤ (i : Int) := by omega
 have hi1 : (i : Int) < (nM : Int) := by omega
 have hfu0 : (0 : Int) ≤ (fuel : Int) := by omega
 have hfu1 : (fuel : Int) ≤ 2000 := by omega
 obtain ⟨b7, hb7⟩ : ∃ b, w5.heap.size = b := ⟨_, rfl⟩
 obtain ⟨w6, hw6⟩ : ∃ w6, w5.alloc (.cells #[.string mn, .string mt, .bool true, .bool ma, .bool mp, .int .i64 (lo : Int), .slice ac nc cc, .slice ah nh ch] 44) = w6 := ⟨_, rfl⟩
 have HB56 : Hid (Below w5.heap.size w5 w6) := hid (hw6 ▸ ext_alloc _ _)
 have HR7 : Hid (w6.heap[b7]? = some (.cells #[.string mn, .string mt, .bool true, .bool ma, .bool mp, .int .i64 (lo : Int), .slice ac nc cc, .slice ah nh ch] 44 (0, 0))) := hid (by rw [← hw6, ← hb7]; exact heap_alloc_new _ _)
 have m2 : w6.cell? ⟨b7, 2, none⟩ = some (.bool true) := by rw [cell_of_row _ _ _ _ _ _ HR7.out]; rfl
 have HB46 := hid (HB45.out.trans (HB56.out.mono HB45.out.size))
 have k2 : w6.cell? ⟨b2, 0, none⟩ = some (.string kd) := by rw [cell_of_row _ _ _ _ _ _ (HX4.out w6 HB46.out).2.1]; rfl
 clear hb5 hme5 hat5 hlk hil0 hnc hnh HMS3
 go_wp2_with fail
 refine (method_any kd w6 hks).mono ?_
 intro e w7 h7
 obtain ⟨v7, rfl, ho7⟩ := methodBy_some HKD.out h7
 obtain ⟨a7, c7', hv7⟩ := ho7.sl.val
 rw [HTS.out] at hv7
 subst hv7
 have HB67 := hid ho7.below
 have HB47 := hid (HB46.out.trans (HB67.out.mono HB46.out.size))
 have HT7 : Hid (Sl w7 (.slice a7 na c7') na 1 ((ts.map bs).map .string)) := hid (by have := ho7.sl; rw [HTS.out] at this; rw [List.map_map]; exact this)
 have HTL : Hid ((ts.map bs).length = na) := hid (by rw [List.length_map]; exact HTS.out)
 have hna0 : (0 : Int) ≤ (na : Int) := by omega
 clear h7 ho7 hlk5 c0 c1 c2 c3 c4 c5 c6 c7 m2 k2 hw6
 go_wp2_with fail
 go_loopw [82] (fun v wr => ∃ k : Nat, k ≤ na ∧ v = .int .i64 (k : Int) ∧ Hid (Below w7.heap.size w7 wr)) (fun v _ => na - (intOf v).toNat)
 case atStart => exact ⟨0, Nat.zero_le _, rfl, hid (Below.refl _ _)⟩
 case round =>
  obtain ⟨k, hk, rfl, HBR⟩ := hrel
  obtain ⟨wb, hwb⟩ : ∃ wb, wb = wr := ⟨_, rfl⟩
  subst hwb
  have hk0 : (0 : Int) ≤ (k : Int) := by omega
  have HB4R := hid (HB47.out.trans (HBR.out.mono HB47.out.size))
  have HBWR := hid (HB4.out.trans (HB4R.out.mono HB4.out.size))
  by_cases hlt : k < na
  ·have hk1 : (k : Int) < (na : Int) := by omega
   obtain ⟨bv, ov, hav, y0, y1⟩ := vl_atn HNA.out (HA.out.below HBWR.out) hlt
   obtain ⟨bt, ot, hat, z0⟩ := text_atn HTL.out (HT7.out.below HBR.out) hlt
   obtain ⟨rfl⟩ := Option.some.inj hav
   subst hat
   have hka : k < args.length := by rw [HNA.out]; exact hlt
   have hkt : k < ts.length := by rw [HTS.out]; exact hlt
   have HDO := hid (HD.out k hka hkt)
   have HTK := hid (HTY.out _ (List.getElem_mem hkt))
   rw [List.getElem_map] at z0
   generalize ts[k] = tk0 at z0 HDO HTK
   generalize args[k] = v at y0 y1 HDO
   obtain ⟨vk, vn⟩ := v
   simp only at y0 y1
   obtain ⟨tk, htk⟩ : ∃ t, bs tk0 = t := ⟨_, rfl⟩
   have HTD : Hid (tk.data.toList = tk0) := hid (by rw [← htk]; exact bs_data _)
   rw [htk] at z0
   clear htk hka hkt
   obtain ⟨b8, hb8⟩ : ∃ b, wb.heap.size = b := ⟨_, rfl⟩
   obtain ⟨w8, hw8⟩ : ∃ w8, wb.alloc (.cells #[.int .i64 vk, .int .i64 vn] 36) = w8 := ⟨_, rfl⟩
   have HB8 : Hid (Below wb.heap.size wb w8) := hid (hw8 ▸ ext_alloc _ _)
   have HR8 : Hid (w8.heap[b8]? = some (.cells #[.int .i64 vk, .int .i64 vn] 36 (0, 0))) := hid (by rw [← hw8, ← hb8]; exact heap_alloc_new _ _)
   have HXL : Hid (∀ u, Below w8.heap.size w8 u → u.heap[b8]? = some (.cells #[.int .i64 vk, .int .i64 vn] 36 (0, 0)) ∧ u.cell? ⟨bt, ot + k, none⟩ = some (.string tk) ∧ Calls Tryz.prog 28 #[.map (some b), .agg #[.slice none 0 0], .agg #[.int .i64 vk, .int .i64 vn], .string tk] u fun e w' => e = .returned (.bool true) ∧ Below u.heap.size u w') := hid (fun u hu => by
    have hbu := HB8.out.trans (hu.mono HB8.out.size)
    refine ⟨(hu.block _ (zh HR8.out).1).trans HR8.out, by rw [hbu.cell (p := ⟨bt, ot + k, none⟩) (World.block_lt_of_cell? wb _ z0)]; exact z0, ?_⟩
    have := hdoes_any W b (.slice none 0 0) [] vk vn tk u (HWD.out.below (HB4R.out.trans (hbu.mono HB4R.out.size))) ⟨⟨rfl, none, 0, rfl, Nat.le_refl _, .inl rfl⟩, fun x hx => absurd hx List.not_mem_nil⟩ (fun x hx => absurd hx List.not_mem_nil) (by rw [HTD.out]; exact HTK.out) (by simp)
    rw [HTD.out, HDO.out] at this
    exact this)
   go_wp2_with fail
   refine wp_region_ext_tail 8 [(7, is (.bool true))] ⟨is_stays _, trivial⟩ (by kernel_rfl) (by kernel_rfl) ?_
   refine zgc 1 ?_
   go_frame
   refine wpG_calc (v := .agg #[.slice none 0 0]) 2 rfl rfl rfl (fun u => by first | (go_simp; done) | (go_simp; rfl) | rfl) ?_
   go_frame
   refine wpG_read 3 rfl rfl (.agg #[.int .i64 vk, .int .i64 vn]) rfl ?_ ?_
   ·intro u hu hh
    have hR := (HXL.out u hu).1
    exact (by have hl := run_loadVar_row (P := Tryz.prog) u b8 36 36 #[.int .i64 vk, .int .i64 vn] (0, 0) _ hR Tryz.underlying36 rfl (by kernel_rfl); (try simp only [List.getElem_toArray, List.getElem_cons_zero, List.getElem_cons_succ]); unfold execOp; simp only [Act.eval, Instr.loadAt, Instr.sureAddr, Sem.run_bind, Sem.run_pure]; change ((Sem.run Tryz.prog (loadVar 36 ⟨b8, 0, none⟩) u).andThen fun a w' => Result.ok (Next.value a) w') = _; rw [hl]; rfl)
   go_frame
   refine zgc 4 ?_
   go_frame
   refine zgc 5 ?_
   go_frame
   refine wpG_calc (v := .pointer (some ⟨bt, ot + k, none⟩)) 6 rfl rfl rfl (fun u => by first | (go_simp; done) | (go_simp; rfl) | (go_simp; omega)) ?_
   go_frame
   refine wpG_read 7 rfl rfl (.string tk) rfl ?_ ?_
   ·intro u hu hh
    have q := (HXL.out u hu).2.1
    go_simp
   go_frame
   refine wpG_rel 8 rfl rfl rfl ?_ ?_
   ·intro u hu hh
    go_simp
    refine ((HXL.out u hu).2.2).mono ?_
    rintro e w9 ⟨rfl, hb9⟩
    exact ⟨_, rfl, rfl, hb9⟩
   intro vD ⟨uD, _, hrD⟩
   have hvD : vD = .bool true := hrD
   subst hvD
   go_frame
   refine wpG_nil fun wn hbn hF => ?_
   have HBN := hid (HBR.out.trans ((HB8.out.trans (hbn.mono HB8.out.size)).mono HBR.out.size))
   clear hbn hF HXL y0 y1 z0 hw8 hb8
   go_wp2_with fail
   go_roundw
   case rel => exact ⟨k + 1, by omega, by simp, HBN⟩
   case measure => simp [intOf]; omega
  ·obtain rfl : na = k := by omega
   have HWDR := hid (HWD.out.below HB4R.out)
   have HM0 := hid (MM.init HWDR.out)
   obtain ⟨M, hM⟩ : ∃ M, wb.heap.size = M := ⟨_, rfl⟩
   obtain ⟨w9, hw9⟩ : ∃ w9, wb.alloc (.cells #[.map (some b), .slice none 0 0, .slice none 0 0, .int .i64 0, .int .i64 0, .string { data := #[] }, .int .i64 0, .bool false] 81) = w9 := ⟨_, rfl⟩
   have HB9 : Hid (Below wb.heap.size wb w9) := hid (hw9 ▸ ext_alloc _ _)
   rw [hw9, hM] at HM0
   have HB69 := hid (HB67.out.trans (HBR.out.mono HB67.out.size))
   have HR9 : Hid (w9.heap[b7]? = some (.cells #[.string mn, .string mt, .bool true, .bool ma, .bool mp, .int .i64 (lo : Int), .slice ac nc cc, .slice ah nh ch] 44 (0, 0))) := hid (((HB69.out.trans (HB9.out.mono HB69.out.size)).block _ (zh HR7.out).1).trans HR7.out)
   have HR3 : Hid (w9.heap[b3]? = some (.cells #[.int .i64 0, .int .i64 0, .string { data := #[] }, .int .i64 0] 38 (0, 0))) := hid (HX4.out w9 (HB4R.out.trans (HB9.out.mono HB4R.out.size))).2.2
   have HA9 := hid ((HA.out.below HBWR.out).below HB9.out)
   have HMA : Hid ((⟨mn, mt, true, ma, mp, (lo : Int), .slice ac nc cc, .slice ah nh ch, code, hs⟩ : MV).At wb) := hid (by
    have h1 := (HAT5.out.below (HB56.out.trans (HB69.out.mono HB56.out.size)))
    simp only [HNC.out, HNH.out] at h1
    exact h1)
   have g0 : w9.cell? ⟨b7, 0, none⟩ = some (.string mn) := by rw [cell_of_row _ _ _ _ _ _ HR9.out]; rfl
   have g1 : w9.cell? ⟨b7, 1, none⟩ = some (.string mt) := by rw [cell_of_row _ _ _ _ _ _ HR9.out]; rfl
   have g2 : w9.cell? ⟨b7, 2, none⟩ = some (.bool true) := by rw [cell_of_row _ _ _ _ _ _ HR9.out]; rfl
   have g3 : w9.cell? ⟨b7, 3, none⟩ = some (.bool ma) := by rw [cell_of_row _ _ _ _ _ _ HR9.out]; rfl
   have g4 : w9.cell? ⟨b7, 4, none⟩ = some (.bool mp) := by rw [cell_of_row _ _ _ _ _ _ HR9.out]; rfl
   have g5 : w9.cell? ⟨b7, 5, none⟩ = some (.int .i64 (lo : Int)) := by rw [cell_of_row _ _ _ _ _ _ HR9.out]; rfl
   have g6 : w9.cell? ⟨b7, 6, none⟩ = some (.slice ac nc cc) := by rw [cell_of_row _ _ _ _ _ _ HR9.out]; rfl
   have g7 : w9.cell? ⟨b7, 7, none⟩ = some (.slice ah nh ch) := by rw [cell_of_row _ _ _ _ _ _ HR9.out]; rfl
   have HKM2 : Hid (K 0 = ⟨[], [⟨cls, ⟨mn, mt, true, ma, mp, (lo : Int), .slice ac nc cc, .slice ah nh ch, code, hs⟩, 0, args ++ List.replicate (lo - na) noV, []⟩]⟩) := hid (by have h1 := HKM.out; simp only [HNC.out, HNH.out] at h1; exact h1)
   have HNEM : Hid (b3 < M ∧ w.heap.size ≤ b3) := hid (by
    have h1 := (zh (HX4.out wb HB4R.out).2.2).1
    exact ⟨by omega, HLE3.out⟩)
   go_wp2_with fail
   refine (renter_some HM0.out (by simp) cls mn mt true ma mp lo (.slice ac nc cc) (.slice ah nh ch) code hs hlo1 HMA.out ad na ca args HA9.out HNA.out hal).mono ?_
   rintro e w10 ⟨rfl, ho10, vC2, bg, hm10⟩
   have HM10 : Hid (MM wb w10 M b W (.slice none 0 0) vC2 [] [bg] (K 0) (T 0) 0 (decide (0 = N))) := hid (by rw [HKM2.out, HT0.out, show decide (0 = N) = false from decide_eq_false (by omega)]; exact hm10)
   have HR10 : Hid (w10.heap[b3]? = some (.cells #[.int .i64 0, .int .i64 0, .string { data := #[] }, .int .i64 0] 38 (0, 0))) := hid (ho10.2 b3 _ _ HR3.out (by decide) (by decide) (by decide) (by decide) (by decide))
   clear hm10 ho10 g0 g1 g2 g3 g4 g5 g6 g7
   go_wp2_with fail
   refine (rrun_any N fuel K T HM10.out hN (by omega) (fun k hk u vT vC G Bs s hm => HST.out wb M b k hk u vT vC G Bs s hm)).mono ?_
   rintro e w11 ⟨rfl, ho11, vT, vC, G, Bs, hm11⟩
   have HM11 := hid hm11
   have HR11 : Hid (w11.heap[b3]? = some (.cells #[.int .i64 0, .int .i64 0, .string { data := #[] }, .int .i64 0] 38 (0, 0))) := hid (ho11.2 b3 _ _ HR10.out (by decide) (by decide) (by decide) (by decide) (by decide))
   obtain ⟨z0, z1, z2, z3, z4, z5, z6, z7⟩ := hm11.cells
   have t0 : w11.cell? ⟨b3, 0, none⟩ = some (.int .i64 0) := by rw [cell_of_row _ _ _ _ _ _ HR11.out]; rfl
   have t1 : w11.cell? ⟨b3, 1, none⟩ = some (.int .i64 0) := by rw [cell_of_row _ _ _ _ _ _ HR11.out]; rfl
   have t2 : w11.cell? ⟨b3, 2, none⟩ = some (.string { data := #[] }) := by rw [cell_of_row _ _ _ _ _ _ HR11.out]; rfl
   have t3 : w11.cell? ⟨b3, 3, none⟩ = some (.int .i64 0) := by rw [cell_of_row _ _ _ _ _ _ HR11.out]; rfl
   have f0 : w11.frozen? ⟨b3, 0, none⟩ = false := frozen_of_row _ _ _ _ _ HR11.out
   have f1 : w11.frozen? ⟨b3, 1, none⟩ = false := frozen_of_row _ _ _ _ _ HR11.out
   have f2 : w11.frozen? ⟨b3, 2, none⟩ = false := frozen_of_row _ _ _ _ _ HR11.out
   have f3 : w11.frozen? ⟨b3, 3, none⟩ = false := frozen_of_row _ _ _ _ _ HR11.out
   have hne : b3 ≠ M := by have := HNEM.out.1; omega
   have hne2 : M ≠ b3 := by have := HNEM.out.1; omega
   generalize hTN : T N = tn at z3 z4 z5 HM11
   have HTN := hid hTN
   clear hTN
   obtain ⟨⟨tk, tv⟩, tth⟩ := tn
   simp only at z3 z4 z5
   have HFR : Hid (((((w11.setCell ⟨b3, 0, none⟩ (.int .i64 tk)).setCell ⟨b3, 1, none⟩ (.int .i64 tv)).setCell ⟨b3, 2, none⟩ (.string tth)).setCell ⟨b3, 3, none⟩ (.int .i64 (N : Int))).heap[b3]? = some (.cells #[.int .i64 tk, .int .i64 tv, .string tth, .int .i64 (N : Int)] 38 (0, 0))) := hid (by rw [heap_set (heap_set (heap_set (heap_set HR11.out 0 _) 1 _) 2 _) 3 _]; rfl)
   have HFB : Hid (Below w.heap.size w ((((w11.setCell ⟨b3, 0, none⟩ (.int .i64 tk)).setCell ⟨b3, 1, none⟩ (.int .i64 tv)).setCell ⟨b3, 2, none⟩ (.string tth)).setCell ⟨b3, 3, none⟩ (.int .i64 (N : Int)))) := hid (by
    have h1 := HBWR.out.trans (HM11.out.below.mono HBWR.out.size)
    have h2 := HNEM.out.2
    exact (((h1.setCell h2 _).setCell h2 _).setCell h2 _).setCell h2 _)
   clear hm11 ho11
   go_wp2_with fail
   refine bodyPost_ret (results_cell_at rfl _ _ b3 _ _ _ _ rfl HFR.out Tryz.underlying38 rfl (by kernel_rfl)) rfl ?_
   refine ⟨?_, HFB.out⟩
   rw [HTN.out]
   rfl
def adCode : List I := [⟨4, 0, 0, noB, noB, noB⟩, ⟨4, 1, 0, noB, noB, noB⟩, ⟨9, 1, 0, { data := #[73] }, noB, noB⟩, ⟨27, 0, 0, noB, noB, noB⟩]
def adM (vc vh : Value) : MV := ⟨{ data := #[97, 100, 100] }, { data := #[40, 73, 73, 41, 73] }, true, false, false, 2, vc, vh, adCode, []⟩
def adC (vf vd vm vc vh : Value) : CV := ⟨{ data := #[65] }, { data := #[79, 98, 106, 101, 99, 116] }, vf, false, vd, vm, [], [], [adM vc vh]⟩
theorem ad_check (vf vd vm vc vh : Value) : checkF [adC vf vd vm vc vh] = 0 := by kernel_rfl
theorem ad_at (vf vd vm vc vh : Value) : cAt (readW [adC vf vd vm vc vh]).2 { data := #[65] } = adC vf vd vm vc vh := by kernel_rfl
theorem ad_idx (vc vh : Value) : idxM { data := #[97, 100, 100] } { data := #[40, 73, 73, 41, 73] } [adM vc vh] = 0 := by kernel_rfl
theorem ad_method : methodOf [40, 73, 73, 41, 73] = some ([[73], [73]], [73]) := by kernel_rfl
theorem ad_sum : ofOf [73] 1 2 3 = (5, true) := by kernel_rfl
theorem sl_zero (w : World) (size : Nat) : Sl w (.slice none 0 0) 0 size [] := ⟨by simp, none, 0, rfl, Nat.le_refl _, .inl rfl⟩
theorem adder_any (w : World) : Calls Tryz.prog 19 #[] w fun e w' => ∃ va vf vd vm vc vh, e = .returned va ∧ Below w.heap.size w w' ∧ Clss w' va [adC vf vd vm vc vh] := by
 go_enter Tryz.func19, Tryz.ntmps19
 go_wp2
 go_ret
 obtain ⟨A1, hA1⟩ : ∃ A1, w.alloc (.cells #[.int .i64 4, .int .i64 0, .int .i64 0, .string { data := #[] }, .string { data := #[] }, .string { data := #[] }, .int .i64 4, .int .i64 1, .int .i64 0, .string { data := #[] }, .string { data := #[] }, .string { data := #[] }, .int .i64 9, .int .i64 1, .int .i64 0, .string { data := #[73] }, .string { data := #[] }, .string { data := #[] }, .int .i64 27, .int .i64 0, .int .i64 0, .string { data := #[] }, .string { data := #[] }, .string { data := #[] }] 56) = A1 := ⟨_, rfl⟩
 obtain ⟨A2, hA2⟩ : ∃ A2, A1.alloc (.cells #[.string { data := #[97, 100, 100] }, .string { data := #[40, 73, 73, 41, 73] }, .bool true, .bool false, .bool false, .int .i64 2, .slice (some ⟨w.heap.size, 0, none⟩) 4 4, .slice none 0 0] 44) = A2 := ⟨_, rfl⟩
 obtain ⟨A3, hA3⟩ : ∃ A3, A2.alloc (.cells #[.string { data := #[97, 100, 100] }, .string { data := #[40, 73, 73, 41, 73] }, .bool true, .bool false, .bool false, .int .i64 2, .slice (some ⟨w.heap.size, 0, none⟩) 4 4, .slice none 0 0] 44) = A3 := ⟨_, rfl⟩
 obtain ⟨A4, hA4⟩ : ∃ A4, A3.alloc (.cells #[.string { data := #[65] }, .string { data := #[79, 98, 106, 101, 99, 116] }, .slice none 0 0, .bool false, .slice none 0 0, .slice (some ⟨w.heap.size + 1 + 1, 0, none⟩) 1 1] 28) = A4 := ⟨_, rfl⟩
 have s1 : A1.heap.size = w.heap.size + 1 := by rw [← hA1]; simp
 have s2 : A2.heap.size = w.heap.size + 1 + 1 := by rw [← hA2]; simp [s1]
 have s3 : A3.heap.size = w.heap.size + 1 + 1 + 1 := by rw [← hA3]; simp [s2]
 have B1 : Below w.heap.size w A1 := hA1 ▸ ext_alloc _ _
 have B2 : Below A1.heap.size A1 A2 := hA2 ▸ ext_alloc _ _
 have B3 : Below A2.heap.size A2 A3 := hA3 ▸ ext_alloc _ _
 have B4 : Below A3.heap.size A3 A4 := hA4 ▸ ext_alloc _ _
 have B34 := B3.trans (B4.mono B3.size)
 have B24 := B2.trans (B34.mono B2.size)
 have hcode : Sl A1 (.slice (some ⟨w.heap.size, 0, none⟩) 4 4) 4 6 (cellsOf adCode) := by rw [← hA1]; exact Sl.lit w #[.int .i64 4, .int .i64 0, .int .i64 0, .string { data := #[] }, .string { data := #[] }, .string { data := #[] }, .int .i64 4, .int .i64 1, .int .i64 0, .string { data := #[] }, .string { data := #[] }, .string { data := #[] }, .int .i64 9, .int .i64 1, .int .i64 0, .string { data := #[73] }, .string { data := #[] }, .string { data := #[] }, .int .i64 27, .int .i64 0, .int .i64 0, .string { data := #[] }, .string { data := #[] }, .string { data := #[] }] 56 4 6 rfl
 have hmet : Sl A3 (.slice (some ⟨w.heap.size + 1 + 1, 0, none⟩) 1 1) 1 8 ([adM (.slice (some ⟨w.heap.size, 0, none⟩) 4 4) (.slice none 0 0)].flatMap MV.cells) := by
  have h := Sl.lit A2 #[.string { data := #[97, 100, 100] }, .string { data := #[40, 73, 73, 41, 73] }, .bool true, .bool false, .bool false, .int .i64 2, .slice (some ⟨w.heap.size, 0, none⟩) 4 4, .slice none 0 0] 44 1 8 rfl
  rw [s2, hA3] at h
  exact h
 have hcls : Sl A4 (.slice (some ⟨w.heap.size + 1 + 1 + 1, 0, none⟩) 1 1) 1 6 ([adC (.slice none 0 0) (.slice none 0 0) (.slice (some ⟨w.heap.size + 1 + 1, 0, none⟩) 1 1) (.slice (some ⟨w.heap.size, 0, none⟩) 4 4) (.slice none 0 0)].flatMap CV.cells) := by
  have h := Sl.lit A3 #[.string { data := #[65] }, .string { data := #[79, 98, 106, 101, 99, 116] }, .slice none 0 0, .bool false, .slice none 0 0, .slice (some ⟨w.heap.size + 1 + 1, 0, none⟩) 1 1] 28 1 6 rfl
  rw [s3, hA4] at h
  exact h
 rw [hA1, hA2, hA3, hA4]
 refine ⟨_, .slice none 0 0, .slice none 0 0, .slice (some ⟨w.heap.size + 1 + 1, 0, none⟩) 1 1, .slice (some ⟨w.heap.size, 0, none⟩) 4 4, .slice none 0 0, rfl, B1.trans (B24.mono B1.size), hcls, fun c hc => ?_⟩
 obtain rfl := List.mem_singleton.1 hc
 refine ⟨sl_zero _ _, sl_zero _ _, ⟨hmet.below B4, fun m hm => ?_⟩⟩
 obtain rfl := List.mem_singleton.1 hm
 exact ⟨hcode.below B24, sl_zero _ _⟩
def nA : ByteArray := { data := #[65] }
def adL : List Vl := [⟨1, 2⟩, ⟨1, 3⟩]
def adK (vc vh : Value) : Nat → Mac
 | 0 => ⟨[], [⟨nA, adM vc vh, 0, adL, []⟩]⟩
 | 1 => ⟨[], [⟨nA, adM vc vh, 1, adL, [⟨1, 2⟩]⟩]⟩
 | 2 => ⟨[], [⟨nA, adM vc vh, 2, adL, [⟨1, 2⟩, ⟨1, 3⟩]⟩]⟩
 | 3 => ⟨[], [⟨nA, adM vc vh, 3, adL, [⟨1, 5⟩]⟩]⟩
 | _ => ⟨[], []⟩
def adT : Nat → Told
 | 4 => ⟨⟨1, 5⟩, noB⟩
 | _ => ⟨noV, noB⟩
theorem ad_steps (vc vh : Value) (W : WL) : ∀ (w0 : World) (M b k : Nat), k < 4 → ∀ (u : World) (vT vC : Value) (G : List Th) (Bs : List Nat) (s : Nat), MM w0 u M b W vT vC G Bs (adK vc vh k) (adT k) s false → Calls Tryz.prog 59 #[.pointer (some ⟨M, 0, none⟩)] u fun e w' => e = .returned (.tuple #[]) ∧ OthT u w' ∧ ∃ vT vC G Bs, MM w0 w' M b W vT vC G Bs (adK vc vh (k + 1)) (adT (k + 1)) s (decide (k + 1 = 4)) := by
 intro w0 M b k hk u vT vC G Bs s h
 have hk4 : k = 0 ∨ k = 1 ∨ k = 2 ∨ k = 3 := by omega
 rcases hk4 with rfl | rfl | rfl | rfl
 ·refine (rstep_plain (c := ⟨nA, adM vc vh, 0, adL, []⟩) (r := []) h 4 0 0 noB noB noB rfl (by decide) adL [⟨1, 2⟩] 1 (by decide) (fun u B vL vS hc => rpl_4 0 1 2 0 rfl (hid (by simp)) noB noB noB hc)).mono ?_
  rintro e w' ⟨he, ho, hm⟩
  exact ⟨he, ho, _, _, _, _, hm⟩
 ·refine (rstep_plain (c := ⟨nA, adM vc vh, 1, adL, [⟨1, 2⟩]⟩) (r := []) h 4 1 0 noB noB noB rfl (by decide) adL [⟨1, 2⟩, ⟨1, 3⟩] 2 (by decide) (fun u B vL vS hc => rpl_4 1 1 3 0 rfl (hid (by simp)) noB noB noB hc)).mono ?_
  rintro e w' ⟨he, ho, hm⟩
  exact ⟨he, ho, _, _, _, _, hm⟩
 ·refine (rstep_plain (c := ⟨nA, adM vc vh, 2, adL, [⟨1, 2⟩, ⟨1, 3⟩]⟩) (r := []) h 9 1 0 { data := #[73] } noB noB rfl (by decide) adL [⟨1, 5⟩] 3 (by decide) (fun u B vL vS hc => ?_)).mono ?_
  ·refine (rpl_9s (c := ⟨nA, adM vc vh, 2, adL, []⟩) 1 0 (by decide) [] 1 2 1 3 { data := #[73] } noB noB hc).mono ?_
   intro e w' hq
   rw [show (({ data := #[73] } : ByteArray).data.toList) = [73] from rfl, ad_sum] at hq
   unfold FBy at hq
   rw [if_pos rfl] at hq
   exact hq
  ·rintro e w' ⟨he, ho, hm⟩
   exact ⟨he, ho, _, _, _, _, hm⟩
 ·refine (rstep_give (c := ⟨nA, adM vc vh, 3, adL, [⟨1, 5⟩]⟩) h 0 0 noB noB noB rfl [] 1 5 rfl).mono ?_
  rintro e w' ⟨he, ho, vC2, hm⟩
  exact ⟨he, ho, _, _, _, _, hm⟩
theorem ad_small (vf vd vm vc vh : Value) : SmallC (adC vf vd vm vc vh) := by
 refine ⟨by simp [adC, ByteArray.size], by simp [adC, ByteArray.size], by simp [adC], by simp [adC], by simp [adC], by simp [adC], by simp [adC], fun x hx => ?_⟩
 obtain rfl := List.mem_singleton.1 hx
 refine ⟨by simp [adM, ByteArray.size], by simp [adM, ByteArray.size], by simp [adM, adCode], fun y hy => ?_, by simp [adM], by simp [adM]⟩
 simp only [adM, adCode, List.mem_cons, List.not_mem_nil, or_false] at hy
 rcases hy with rfl | rfl | rfl | rfl <;> (refine ⟨?_, ?_, ?_⟩ <;> simp [noB, ByteArray.size])
theorem ad_plain (vf vd vm vc vh : Value) : PlainC (adC vf vd vm vc vh) := by
 refine ⟨rfl, rfl, rfl, fun m hm => ?_⟩
 obtain rfl := List.mem_singleton.1 hm
 exact ⟨rfl, rfl, rfl, rfl⟩
theorem ad_call (va vf vd vm vc vh : Value) (w : World) (hl : Clss w va [adC vf vd vm vc vh]) (hf : FormsAt w) (b2 : Nat) (ha : Vls w (.slice (some ⟨b2, 0, none⟩) 2 2) adL) :
  Calls Tryz.prog 9 #[va, .string { data := #[65] }, .string { data := #[97, 100, 100] }, .string { data := #[40, 73, 73, 41, 73] }, .slice (some ⟨b2, 0, none⟩) 2 2, .int .i64 10] w fun e w' => e = .returned (.tuple #[.agg #[.int .i64 1, .int .i64 5, .string { data := #[] }, .int .i64 4], .nilIface]) ∧ Below w.heap.size w w' := by
 obtain ⟨W, hW⟩ : ∃ W, (readW [adC vf vd vm vc vh]).2 = W := ⟨_, rfl⟩
 have hat : cAt W nA = adC vf vd vm vc vh := by rw [← hW]; exact ad_at vf vd vm vc vh
 have hm : (cAt W nA).mets = [adM vc vh] := by rw [hat]; rfl
 have hlen : 0 < (cAt W nA).mets.length := by rw [hm]; simp
 have hm0 : (cAt W nA).mets[0]'hlen = adM vc vh := by simp only [hm]; rfl
 refine rcall_good va [adC vf vd vm vc vh] w hl hf (fun c hc => by rw [List.mem_singleton.1 hc]; exact ad_small _ _ _ _ _) (by simp) (fun c hc => by rw [List.mem_singleton.1 hc]; exact ad_plain _ _ _ _ _) (ad_check _ _ _ _ _) W hW nA { data := #[97, 100, 100] } { data := #[40, 73, 73, 41, 73] } 0 hlen (by rw [hm]; simp) (by rw [hm]; exact ad_idx vc vh) (by rw [hm0]; rfl) 2 (by rw [hm0]; rfl) (by decide) 10 4 (by decide) (by decide) (by decide) [[73], [73]] [73] ad_method (by decide) ⟨b2, 0, none⟩ 2 2 adL ha rfl rfl (by decide) (by decide) (fun j h1 h2 => ?_) (fun t ht => ?_) (adK vc vh) adT rfl (by rw [hm0]; rfl) (ad_steps vc vh W)
 ·have : j = 0 ∨ j = 1 := by simp [adL] at h1; omega
  rcases this with rfl | rfl
  ·show doesV W [] ⟨1, 2⟩ [73] = true
   unfold doesV
   rw [if_pos rfl]
   exact decide_eq_true ⟨rfl, by decide +kernel⟩
  ·show doesV W [] ⟨1, 3⟩ [73] = true
   unfold doesV
   rw [if_pos rfl]
   exact decide_eq_true ⟨rfl, by decide +kernel⟩
 ·simp only [List.mem_cons, List.not_mem_nil, or_false, or_self] at ht
  subst ht
  decide +kernel
theorem five_any (w : World) (hf : FormsAt w) : Calls Tryz.prog 7 #[] w fun e w' => e = .returned (.bool true) ∧ Below w.heap.size w w' := by
 have HF := hid hf
 clear hf
 go_enter Tryz.func7, Tryz.ntmps7
 go_wp2_with fail
 refine (adder_any w).mono ?_
 rintro e w1 ⟨va, vf, vd, vm, vc, vh, rfl, hb1, hcl⟩
 have HB1 := hid hb1
 have HCL := hid hcl
 clear hb1 hcl
 obtain ⟨b2, hb2⟩ : ∃ b, w1.heap.size = b := ⟨_, rfl⟩
 obtain ⟨w2, hw2⟩ : ∃ w2, w1.alloc (.cells #[.int .i64 1, .int .i64 2, .int .i64 1, .int .i64 3] 36) = w2 := ⟨_, rfl⟩
 have HB2 : Hid (Below w1.heap.size w1 w2) := hid (hw2 ▸ ext_alloc _ _)
 have HA2 : Hid (Vls w2 (.slice (some ⟨b2, 0, none⟩) 2 2) adL) := hid (by rw [← hw2, ← hb2]; exact Sl.lit w1 #[.int .i64 1, .int .i64 2, .int .i64 1, .int .i64 3] 36 2 2 rfl)
 go_wp2_with fail
 refine (ad_call va vf vd vm vc vh w2 (HCL.out.below HB2.out) (HF.out.below (HB1.out.trans (HB2.out.mono HB1.out.size))) b2 HA2.out).mono ?_
 rintro e w3 ⟨rfl, hb3⟩
 have HB3 := hid (HB1.out.trans ((HB2.out.trans (hb3.mono HB2.out.size)).mono HB1.out.size))
 clear hb3 hw2
 go_wp2_with fail
 go_ret
 exact ⟨rfl, HB3.out.trans ((ext_alloc _ _).mono HB3.out.size)⟩
end Go.Proofs.YtloonnfelgokmaaGreatDoor.worlds
