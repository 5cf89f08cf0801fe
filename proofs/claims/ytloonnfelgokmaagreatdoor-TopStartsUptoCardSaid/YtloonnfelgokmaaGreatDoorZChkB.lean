/- check's looker: look = lookF, for methods without handlers. Conditions: the world was read and is plain; the code is right. -/
import Derived.Test.YtloonnfelgokmaaGreatDoorZChkA
import Derived.Test.YtloonnfelgokmaaGreatDoorZVrfZ
import Derived.Test.YtloonnfelgokmaaGreatDoorZFlowZ
import Derived.Test.YtloonnfelgokmaaGreatDoorZVmZ
set_option maxRecDepth 100000
set_option maxHeartbeats 16000000
set_option linter.unusedSimpArgs false
set_option linter.unusedVariables false
namespace Go.Proofs.YtloonnfelgokmaaGreatDoor.worlds
open Go.RowKit lib maps classes errs descs names grow keep ins flows
theorem meets_drop {W : WL} {f : Fr} {l : List Int} {i : Nat} {p : FM × List Int} (h : i < l.length) : meetsF W f (l.drop i) p = (meetF W p l[i] f).bind fun p => meetsF W f (l.drop (i + 1)) p := by
 rw [List.drop_eq_getElem_cons h]; rfl
theorem meets_end {W : WL} {f : Fr} {l : List Int} {i : Nat} {p : FM × List Int} (h : ¬ i < l.length) : meetsF W f (l.drop i) p = some p := by rw [List.drop_eq_nil_of_le (by omega)]; rfl
theorem after_two (x : I) (k : Nat) : (afterOf x k).length ≤ 2 := by
 unfold afterOf
 rw [List.length_append]
 split <;> split <;> simp
theorem out_ot2 {w0 w w' : World} {K M b : Nat} {W : WL} {r : MR} {vT : Value} {Q : QM} {T : List Int} {e : TypeId} {v : Value} {n : Nat} {xs : List Value} (h : Out w0 w e 1 v n xs) (hL : LK w0 w K M b W r vT Q T) (ho : Ot2 K vT.ownBlock w w') (hb : Below w0.heap.size w0 w') (h1 : e ≠ 161) (h2 : e ≠ 3) : Out w0 w' e 1 v n xs := by
 refine ⟨⟨h.own.1, ?_⟩, hb⟩
 rcases h.own.2 with hn | ⟨g, cap, cur, hv, hg, hrow, hrest⟩
 ·exact .inl hn
 ·refine .inr ⟨g, cap, cur, hv, hg, ho.2 _ _ _ hrow (fun e2 => ?_) (fun e2 => ?_), hrest⟩
  ·obtain ⟨cur2, hc⟩ := off_row hL.todo e2
   rw [hrow] at hc
   injection hc with hc
   injection hc with _ hc _
   exact h2 hc
  ·have := hL.row
   rw [← e2, hrow] at this
   injection this with this
   injection this with _ this _
   exact h1 this
theorem FOut.ot2 {w0 w w' : World} {K M b : Nat} {W : WL} {r : MR} {vT : Value} {Q : QM} {T : List Int} {x : FV} (h : FOut w0 w x) (hL : LK w0 w K M b W r vT Q T) (ho : Ot2 K vT.ownBlock w w') (hb : Below w0.heap.size w0 w') : FOut w0 w' x :=
 ⟨out_ot2 h.oL hL ho hb (by decide) (by decide), out_ot2 h.oS hL ho hb (by decide) (by decide)⟩
theorem look_any {w0 w : World} {K M b : Nat} {W : WL} {r : MR} {vT : Value} {Q : QM} {T : List Int} (cls gv : ByteArray) (code : List I) (k q : Nat) (h : LK w0 w K M b W r vT Q T) (hF : Flat W) (hcode : flows.Code w0 (.slice r.ac r.nc r.cc) code) (hcl : code.length ≤ 40) (hnh : r.nh = 0) (hgood : GoodCode code)
  (hM : RightM W code.length q (fmOf Q)) (hq : q ≤ 8) (hN : 2 * pot W code.length q (fmOf Q) + T.length ≤ 100000000000) (hks : (getK (fmOf Q) (k : Int)).isSome = true) (hk : k < code.length) (hg : gv = { data := #[86] } ∨ isTy gv.data.toList = true) :
  Calls Tryz.prog 93 #[.pointer (some ⟨K, 0, none⟩), .string cls, .string gv, .int .i64 (k : Int)] w (MeetBy w0 w K M b W r vT (lookF W cls gv code (fmOf Q, T) (k : Int))) := by
 obtain ⟨Z, hZ⟩ : ∃ Z, lookF W cls gv code (fmOf Q, T) (k : Int) = Z := ⟨_, rfl⟩
 rw [hZ]
 have hnc : r.nc = code.length := by
  obtain ⟨_, a', c', he, _⟩ := hcode
  injection he
 obtain ⟨f0, hf0⟩ := Option.isSome_iff_exists.1 hks
 obtain ⟨xq, hxq⟩ : ∃ xq, getK Q (k : Int) = some xq := by
  rw [fm_get] at hf0
  cases hgq : getK Q (k : Int) with
  | none => rw [hgq] at hf0; cases hf0
  | some y => exact ⟨y, rfl⟩
 have hf0' : xq.f = f0 := by rw [fm_get, hxq] at hf0; exact Option.some.inj hf0
 obtain ⟨uL, uS, f⟩ := xq
 simp only at hf0'
 subst hf0'
 obtain ⟨hfR, hfq⟩ := hM.right _ _ hf0
 have hmem := getK_mem hxq
 have hfo := h.frs _ hmem
 simp only at hfo
 obtain ⟨aL, cL, hvL⟩ := hfo.oL.sl.val
 obtain ⟨aS, cS, hvS⟩ := hfo.oS.sl.val
 simp only at hvL hvS
 subst hvL
 subst hvS
 have hx : code[k]? = some code[k] := List.getElem?_eq_getElem hk
 have HZA : Hid (Z = (afterF W cls gv code[k] f).bind fun g => meetsF W g (afterOf code[k] k) (fmOf Q, T)) := hid (by rw [← hZ]; unfold lookF; simp only [hf0, Int.toNat_natCast, hx])
 have HXF := hid (hgood.ins _ (List.getElem_mem hk))
 have HNX := hid (hgood.next k _ hx)
 have HAF := hid (fun u (hu : Below w0.heap.size w0 u) => flows.after_any (.slice r.ac r.nc r.cc) code k u (hcode.below (hu.mono (Nat.le_refl _))) hk (by omega))
 obtain ⟨bc, oc, hac, z0, z1, z2, z3, z4, z5⟩ := code_at (hnc ▸ hcode) hk
 have HCD : Hid (∀ u, Below w0.heap.size w0 u → u.cell? ⟨bc, oc + k * 6, none⟩ = some (.int .i64 code[k].op) ∧ u.cell? ⟨bc, oc + k * 6 + 1, none⟩ = some (.int .i64 code[k].a) ∧ u.cell? ⟨bc, oc + k * 6 + 2, none⟩ = some (.int .i64 code[k].b) ∧ u.cell? ⟨bc, oc + k * 6 + 3, none⟩ = some (.string code[k].t) ∧ u.cell? ⟨bc, oc + k * 6 + 4, none⟩ = some (.string code[k].c) ∧ u.cell? ⟨bc, oc + k * 6 + 5, none⟩ = some (.string code[k].n)) := hid (fun u hu => by
  refine ⟨?_, ?_, ?_, ?_, ?_, ?_⟩
  ·rw [hu.cell (p := ⟨bc, oc + k * 6, none⟩) (World.block_lt_of_cell? w0 _ z0)]; exact z0
  ·rw [hu.cell (p := ⟨bc, oc + k * 6 + 1, none⟩) (World.block_lt_of_cell? w0 _ z1)]; exact z1
  ·rw [hu.cell (p := ⟨bc, oc + k * 6 + 2, none⟩) (World.block_lt_of_cell? w0 _ z2)]; exact z2
  ·rw [hu.cell (p := ⟨bc, oc + k * 6 + 3, none⟩) (World.block_lt_of_cell? w0 _ z3)]; exact z3
  ·rw [hu.cell (p := ⟨bc, oc + k * 6 + 4, none⟩) (World.block_lt_of_cell? w0 _ z4)]; exact z4
  ·rw [hu.cell (p := ⟨bc, oc + k * 6 + 5, none⟩) (World.block_lt_of_cell? w0 _ z5)]; exact z5)
 have HAT := hid (fun u (hu : Wd u b W) (h1 : FOut w0 u ⟨.slice aL f.L.length cL, .slice aS f.S.length cS, f⟩) => fafter_any W b cls gv code[k] f.L f.S _ _ u hu hF HXF.out hg h1.oL.sl h1.oS.sl hfR (by omega))
 generalize code[k] = x at HZA HXF HNX HAF HCD HAT
 obtain ⟨op, xa, xb, xt, xc, xn⟩ := x
 simp only at HCD
 have hlk := (frames_look (h.later (ext_alloc w (.cells #[.slice aL f.L.length cL, .slice aS f.S.length cS] 163))) (k : Int)).2
 have hlk0 := (frames_look h (k : Int)).2
 rw [hxq] at hlk hlk0
 simp only [Option.map_some, Option.getD_some, fvV] at hlk0
 obtain ⟨nL, hnL⟩ : ∃ n, f.L.length = n := ⟨_, rfl⟩
 obtain ⟨nS, hnS⟩ : ∃ n, f.S.length = n := ⟨_, rfl⟩
 have HNL := hid hnL; have HNS := hid hnS
 rw [hnL, hnS] at hlk0 hfo HAT
 obtain ⟨b9, hb9⟩ : ∃ b9, w.heap.size = b9 := ⟨_, rfl⟩
 obtain ⟨A1, hA1⟩ : ∃ A1, w.alloc (.cells #[.slice aL nL cL, .slice aS nS cS] 163) = A1 := ⟨_, rfl⟩
 have B1 : Below w.heap.size w A1 := hA1 ▸ ext_alloc _ _
 have HR9 : Hid (A1.heap[b9]? = some (.cells #[.slice aL nL cL, .slice aS nS cS] 163 (0, 0))) := hid (by rw [← hA1, ← hb9]; exact heap_alloc_new _ _)
 have HL1 := hid (h.later B1)
 have HF1 := hid (hfo.later B1)
 have HO1 : Hid (Ot2 K vT.ownBlock w A1) := hid (Ot2.of_below B1)
 have HFL := hid hF; have HM := hid hM; have HN := hid hN; have HQ := hid hq; have HRF := hid hfR; have HFQ := hid hfq
 obtain ⟨c0, c7, c8, c9, c10⟩ := HL1.out.cells
 have k9 := h.cells.2.2.2.1
 have hac' : r.ac = some ⟨bc, oc, none⟩ := hac
 rw [hac', hnc] at c7
 rw [hnh] at c8
 have hk0 : (0 : Int) ≤ (k : Int) := by omega
 have hk1 : (k : Int) < (code.length : Int) := by omega
 obtain ⟨n0, hn0⟩ : ∃ n, code.length = n := ⟨_, rfl⟩
 have HACN : Hid (r.ac = some ⟨bc, oc, none⟩ ∧ r.nc = n0) := hid ⟨hac', hnc.trans hn0⟩
 have HN0 := hid hn0
 rw [hn0] at c7 hk1
 clear h hZ hcode hnh hgood hM hN hks hg hnc hf0 hxq hfR hfq hmem hfo hx hac z0 z1 z2 z3 z4 z5 B1 hlk hnL hnS hF hac' hk hn0 hcl
 go_enter Tryz.func93, Tryz.ntmps93
 go_wp2_with fail
 clear hlk0 hA1 k9
 go_loopw [30] (fun v wr => v = .int .i64 0 ∧ wr = A1) (fun _ _ => 0)
 case atStart => exact ⟨rfl, rfl⟩
 case round =>
  obtain ⟨rfl, hwr⟩ := hrel
  obtain rfl : A1 = wr := hwr.symm
  have HX : Hid (∀ u, Below A1.heap.size A1 u → u.cell? ⟨K, 0, none⟩ = some (.map (some b)) ∧ u.cell? ⟨K, 7, none⟩ = some (.slice (some ⟨bc, oc, none⟩) n0 r.cc) ∧ u.heap[b9]? = some (.cells #[.slice aL nL cL, .slice aS nS cS] 163 (0, 0)) ∧ Below w0.heap.size w0 u ∧ Calls Tryz.prog 157 #[.map (some b), .string cls, .string gv, .agg #[.int .i64 op, .int .i64 xa, .int .i64 xb, .string xt, .string xc, .string xn], .agg #[.slice aL nL cL, .slice aS nS cS]] u (AfterBy u (afterF W cls gv ⟨op, xa, xb, xt, xc, xn⟩ f))) := hid (fun u hu =>
   ⟨(HL1.out.later hu).cells.1, by have := (HL1.out.later hu).cells.2.1; rw [HACN.out.1, HACN.out.2] at this; exact this, (hu.block _ (zh HR9.out).1).trans HR9.out, (HL1.out.later hu).below, HAT.out u (HL1.out.later hu).wd' (HF1.out.later hu)⟩)
  have HBW1 : Hid (Below w0.heap.size w0 A1) := hid HL1.out.below
  cases haf : afterF W cls gv ⟨op, xa, xb, xt, xc, xn⟩ f with
  | none =>
   rw [haf] at HX
   have HZN : Hid (Z = none) := hid (by rw [HZA.out, haf]; rfl)
   clear haf HAT
   go_wp2_with fail
   obtain ⟨WD, hwd⟩ : ∃ WD, World.drew A1 = WD := ⟨_, rfl⟩
   have HWD : Hid (Below (A1).heap.size A1 WD) := hid (hwd ▸ (Below.refl _ _).drew)
   go_wp2_with fail
   refine wp_region_s (fun u => Below WD.heap.size WD u) 15 (by kernel_rfl) ?_
   show grow.wpAnyS _ _ _ _ _ _ _ _ _ (World.drew _)
   rw [hwd]
   refine zsd 0 _ _ rfl (fun _ => Below.refl _ _) ?_
   simp only [zg1, zg2, zg3, Act.put, zg4, zg5, zg6]
   refine zsd 1 _ _ rfl (fun _ => Below.refl _ _) ?_
   simp only [zg1, zg2, zg3, Act.put, zg4, zg5, zg6]
   refine zsd 2 _ _ rfl (fun _ => Below.refl _ _) ?_
   simp only [zg1, zg2, zg3, Act.put, zg4, zg5, zg6]
   refine zst 3 _ _ rfl (fun _ => Below.refl _ _) (fun u hu => by have q := (HX.out u (HWD.out.trans (hu.mono HWD.out.size))).1; go_simp; rfl) ?_
   simp only [zg1, zg2, zg3, Act.put, zg4, zg5, zg6]
   refine zsd 4 _ _ rfl (fun _ => Below.refl _ _) ?_
   simp only [zg1, zg2, zg3, Act.put, zg4, zg5, zg6]
   refine zsd 5 _ _ rfl (fun _ => Below.refl _ _) ?_
   simp only [zg1, zg2, zg3, Act.put, zg4, zg5, zg6]
   refine zsd 6 _ _ rfl (fun _ => Below.refl _ _) ?_
   simp only [zg1, zg2, zg3, Act.put, zg4, zg5, zg6]
   refine zsd 7 _ _ rfl (fun _ => Below.refl _ _) ?_
   simp only [zg1, zg2, zg3, Act.put, zg4, zg5, zg6]
   refine zsd 8 _ _ rfl (fun _ => Below.refl _ _) ?_
   simp only [zg1, zg2, zg3, Act.put, zg4, zg5, zg6]
   refine zsd 9 _ _ rfl (fun _ => Below.refl _ _) ?_
   simp only [zg1, zg2, zg3, Act.put, zg4, zg5, zg6]
   refine zst 10 _ _ rfl (fun _ => Below.refl _ _) (fun u hu => by have q := (HX.out u (HWD.out.trans (hu.mono HWD.out.size))).2.1; go_simp; rfl) ?_
   simp only [zg1, zg2, zg3, Act.put, zg4, zg5, zg6]
   refine zsd 11 _ _ rfl (fun _ => Below.refl _ _) ?_
   simp only [zg1, zg2, zg3, Act.put, zg4, zg5, zg6]
   refine zsc 12 _ (.pointer (some ⟨bc, oc + k * 6, none⟩)) rfl (fun _ => Below.refl _ _) (fun u => by first | (go_simp; done) | (go_simp; rfl)) ?_
   simp only [zg1, zg2, zg3, Act.put, zg4, zg5, zg6]
   refine zst 13 _ (.agg #[.int .i64 op, .int .i64 xa, .int .i64 xb, .string xt, .string xc, .string xn]) rfl (fun _ => Below.refl _ _) (fun u hu => by obtain ⟨q0, q1, q2, q3, q4, q5⟩ := HCD.out u (HX.out u (HWD.out.trans (hu.mono HWD.out.size))).2.2.2.1; first | (go_simp; done) | (go_simp; rfl)) ?_
   simp only [zg1, zg2, zg3, Act.put, zg4, zg5, zg6]
   refine zst 14 _ (.agg #[.slice aL nL cL, .slice aS nS cS]) rfl (fun _ => Below.refl _ _) (fun u hu => by have hR := (HX.out u (HWD.out.trans (hu.mono HWD.out.size))).2.2.1; exact (by have hl := run_loadVar_row (P := Tryz.prog) u b9 163 163 #[.slice aL nL cL, .slice aS nS cS] (0, 0) _ hR Tryz.underlying163 rfl (by kernel_rfl); (try simp only [List.getElem_toArray, List.getElem_cons_zero, List.getElem_cons_succ]); unfold execOp; simp only [Act.eval, Instr.loadAt, Instr.sureAddr, Sem.run_bind, Sem.run_pure]; change ((Sem.run Tryz.prog (loadVar 163 ⟨b9, 0, none⟩) u).andThen fun a w' => Result.ok (Next.value a) w') = _; rw [hl]; rfl)) ?_
   simp only [zg1, zg2, zg3, Act.put, zg4, zg5, zg6]
   refine s_two 15 19 _ _ rfl rfl (by kernel_rfl) ?_ ?_
   ·go_simp
    refine (HX.out WD (HWD.out.trans ((Below.refl _ _).mono HWD.out.size))).2.2.2.2.mono ?_
    rintro e wz ⟨hbz, rfl⟩
    have HBZ : Hid (Below WD.heap.size WD wz) := hid hbz
    refine ⟨(fun h => absurd h (by decide)), ?_⟩
    try simp only [zg1, zg2, zg3, Act.put, zg4, zg5, zg6]
    clear hbz
    refine zsd 16 _ _ rfl (fun h => absurd h (by decide)) ?_
    simp only [zg1, zg2, zg3, Act.put, zg4, zg5, zg6]
    refine zsd 17 _ _ rfl (fun h => absurd h (by decide)) ?_
    simp only [zg1, zg2, zg3, Act.put, zg4, zg5, zg6]
    refine zsd 18 _ _ rfl (fun h => absurd h (by decide)) ?_
    simp only [zg1, zg2, zg3, Act.put, zg4, zg5, zg6]
    refine s_only 19 _ rfl (by kernel_rfl) ?_
    obtain ⟨wy, hnx⟩ : ∃ wn, wz.alloc (.cells #[.slice none 0 0, .slice none 0 0] 163) = wn := ⟨_, rfl⟩
    obtain ⟨bz, hbz0⟩ : ∃ bz, wz.heap.size = bz := ⟨_, rfl⟩
    have HRZ : Hid (wy.heap[bz]? = some (.cells #[.slice none 0 0, .slice none 0 0] 163 (0, 0))) := hid (hnx ▸ hbz0 ▸ heap_alloc_new _ _)
    have HBA : Hid (Below WD.heap.size WD wy) := hid (hnx ▸ (HBZ.out).alloc (HBZ.out).size _)
    have HLE : Hid (WD.heap.size ≤ bz) := hid (hbz0 ▸ (HBZ.out).size)
    go_simp
    try rw [hnx, hbz0]
    refine ⟨(fun h => absurd h (by decide)), ?_⟩
    try simp only [zg1, zg2, zg3, Act.put, zg4, zg5, zg6]
    have HRY := HRZ
    have HBY := HBA
    refine s_only 20 _ rfl (by kernel_rfl) ?_
    try rw [if_pos (by rfl)]
    refine wp_store_row 163 (.tmp 14) (.tmp 82) rfl bz #[.slice none 0 0, .slice none 0 0] rfl rfl 163 _ HRY.out (by kernel_rfl) rfl (by simp [Value.oneCell']) ?_
    obtain ⟨WE, hWE⟩ : ∃ WE, wy.setRow bz #[.slice none 0 0, .slice none 0 0] = WE := ⟨_, rfl⟩
    have HRE : Hid (WE.heap[bz]? = some (.cells #[.slice none 0 0, .slice none 0 0] 163 (0, 0))) := hid (hWE ▸ setRow_heap _ _ _ _ _ _ HRY.out)
    have HBE : Hid (Below WD.heap.size WD WE) := hid (hWE ▸ below_setRow HBY.out HLE.out _)
    try rw [hWE]
    refine ⟨(fun h => absurd h (by decide)), ?_⟩
    try simp only [zg1, zg2, zg3, Act.put, zg4, zg5, zg6]
    refine zsd 21 _ _ rfl (fun h => absurd h (by decide)) ?_
    simp only [zg1, zg2, zg3, Act.put, zg4, zg5, zg6]
    refine s_end (by kernel_rfl) ?_
    clear hnx hbz0 hWE HRZ HBA HRY HBY HBZ hwd
    have HBX := hid (HWD.out.trans (HBE.out.mono HWD.out.size))
    have HL3 := hid (HL1.out.later HBX.out)
    have HO3 := hid (HO1.out.trans (Ot2.of_below HBX.out))
    clear HX
    go_wp2_with fail
    go_ret
    exact meet_no HZN.out HO3.out HL3.out.below
   ·obtain ⟨wx, hnx⟩ : ∃ wn, WD.alloc (.cells #[.slice none 0 0, .slice none 0 0] 163) = wn := ⟨_, rfl⟩
    obtain ⟨bz, hbz0⟩ : ∃ bz, WD.heap.size = bz := ⟨_, rfl⟩
    have HRZ : Hid (wx.heap[bz]? = some (.cells #[.slice none 0 0, .slice none 0 0] 163 (0, 0))) := hid (hnx ▸ hbz0 ▸ heap_alloc_new _ _)
    have HBA : Hid (Below WD.heap.size WD wx) := hid (hnx ▸ ((Below.refl WD.heap.size WD)).alloc ((Below.refl WD.heap.size WD)).size _)
    have HLE : Hid (WD.heap.size ≤ bz) := hid (hbz0 ▸ ((Below.refl WD.heap.size WD)).size)
    go_simp
    try rw [hnx, hbz0]
    refine ⟨fun _ => (by first | exact HBA.out | (show Below _ WD wx; rw [← hbz0]; exact HBA.out)), ?_⟩
    try simp only [zg1, zg2, zg3, Act.put, zg4, zg5, zg6]
    refine s_only 15 _ rfl (by kernel_rfl) ?_
    go_simp
    refine (HX.out wx (HWD.out.trans (HBA.out.mono HWD.out.size))).2.2.2.2.mono ?_
    rintro e wz ⟨hbz, rfl⟩
    have HRY := hid ((hbz.block bz (zh HRZ.out).1).trans HRZ.out)
    have HBY := hid (HBA.out.trans (hbz.mono HBA.out.size))
    refine ⟨(fun h => absurd h (by decide)), ?_⟩
    try simp only [zg1, zg2, zg3, Act.put, zg4, zg5, zg6]
    clear hbz
    refine zsd 16 _ _ rfl (fun h => absurd h (by decide)) ?_
    simp only [zg1, zg2, zg3, Act.put, zg4, zg5, zg6]
    refine zsd 17 _ _ rfl (fun h => absurd h (by decide)) ?_
    simp only [zg1, zg2, zg3, Act.put, zg4, zg5, zg6]
    refine zsd 18 _ _ rfl (fun h => absurd h (by decide)) ?_
    simp only [zg1, zg2, zg3, Act.put, zg4, zg5, zg6]
    refine s_only 20 _ rfl (by kernel_rfl) ?_
    try rw [if_pos (by rfl)]
    refine wp_store_row 163 (.tmp 14) (.tmp 82) rfl bz #[.slice none 0 0, .slice none 0 0] rfl rfl 163 _ HRY.out (by kernel_rfl) rfl (by simp [Value.oneCell']) ?_
    obtain ⟨WE, hWE⟩ : ∃ WE, wz.setRow bz #[.slice none 0 0, .slice none 0 0] = WE := ⟨_, rfl⟩
    have HRE : Hid (WE.heap[bz]? = some (.cells #[.slice none 0 0, .slice none 0 0] 163 (0, 0))) := hid (hWE ▸ setRow_heap _ _ _ _ _ _ HRY.out)
    have HBE : Hid (Below WD.heap.size WD WE) := hid (hWE ▸ below_setRow HBY.out HLE.out _)
    try rw [hWE]
    refine ⟨(fun h => absurd h (by decide)), ?_⟩
    try simp only [zg1, zg2, zg3, Act.put, zg4, zg5, zg6]
    refine zsd 21 _ _ rfl (fun h => absurd h (by decide)) ?_
    simp only [zg1, zg2, zg3, Act.put, zg4, zg5, zg6]
    refine s_end (by kernel_rfl) ?_
    clear hnx hbz0 hWE HRZ HBA HRY HBY hwd
    have HBX := hid (HWD.out.trans (HBE.out.mono HWD.out.size))
    have HL3 := hid (HL1.out.later HBX.out)
    have HO3 := hid (HO1.out.trans (Ot2.of_below HBX.out))
    clear HX
    go_wp2_with fail
    go_ret
    exact meet_no HZN.out HO3.out HL3.out.below
  | some g =>
   rw [haf] at HX
   have HGQ : Hid (RightF W g ∧ g.L.length = q) := hid (by
    obtain ⟨h1, h2⟩ := after_right HXF.out HRF.out haf
    exact ⟨h1, by rw [h2]; exact HFQ.out⟩)
   obtain ⟨ns, hns⟩ : ∃ ns, afterOf (⟨op, xa, xb, xt, xc, xn⟩ : I) k = ns := ⟨_, rfl⟩
   have HZG : Hid (Z = meetsF W g ns (fmOf Q, T)) := hid (by rw [HZA.out, haf, ← hns]; rfl)
   have hn2 : ns.length ≤ 2 := hns ▸ after_two _ k
   rw [hns] at HNX HAF
   clear haf HAT hns
   go_wp2_with fail
   obtain ⟨WD, hwd⟩ : ∃ WD, World.drew A1 = WD := ⟨_, rfl⟩
   have HWD : Hid (Below (A1).heap.size A1 WD) := hid (hwd ▸ (Below.refl _ _).drew)
   go_wp2_with fail
   refine wp_region_s (fun u => Below WD.heap.size WD u) 15 (by kernel_rfl) ?_
   show grow.wpAnyS _ _ _ _ _ _ _ _ _ (World.drew _)
   rw [hwd]
   refine zsd 0 _ _ rfl (fun _ => Below.refl _ _) ?_
   simp only [zg1, zg2, zg3, Act.put, zg4, zg5, zg6]
   refine zsd 1 _ _ rfl (fun _ => Below.refl _ _) ?_
   simp only [zg1, zg2, zg3, Act.put, zg4, zg5, zg6]
   refine zsd 2 _ _ rfl (fun _ => Below.refl _ _) ?_
   simp only [zg1, zg2, zg3, Act.put, zg4, zg5, zg6]
   refine zst 3 _ _ rfl (fun _ => Below.refl _ _) (fun u hu => by have q := (HX.out u (HWD.out.trans (hu.mono HWD.out.size))).1; go_simp; rfl) ?_
   simp only [zg1, zg2, zg3, Act.put, zg4, zg5, zg6]
   refine zsd 4 _ _ rfl (fun _ => Below.refl _ _) ?_
   simp only [zg1, zg2, zg3, Act.put, zg4, zg5, zg6]
   refine zsd 5 _ _ rfl (fun _ => Below.refl _ _) ?_
   simp only [zg1, zg2, zg3, Act.put, zg4, zg5, zg6]
   refine zsd 6 _ _ rfl (fun _ => Below.refl _ _) ?_
   simp only [zg1, zg2, zg3, Act.put, zg4, zg5, zg6]
   refine zsd 7 _ _ rfl (fun _ => Below.refl _ _) ?_
   simp only [zg1, zg2, zg3, Act.put, zg4, zg5, zg6]
   refine zsd 8 _ _ rfl (fun _ => Below.refl _ _) ?_
   simp only [zg1, zg2, zg3, Act.put, zg4, zg5, zg6]
   refine zsd 9 _ _ rfl (fun _ => Below.refl _ _) ?_
   simp only [zg1, zg2, zg3, Act.put, zg4, zg5, zg6]
   refine zst 10 _ _ rfl (fun _ => Below.refl _ _) (fun u hu => by have q := (HX.out u (HWD.out.trans (hu.mono HWD.out.size))).2.1; go_simp; rfl) ?_
   simp only [zg1, zg2, zg3, Act.put, zg4, zg5, zg6]
   refine zsd 11 _ _ rfl (fun _ => Below.refl _ _) ?_
   simp only [zg1, zg2, zg3, Act.put, zg4, zg5, zg6]
   refine zsc 12 _ (.pointer (some ⟨bc, oc + k * 6, none⟩)) rfl (fun _ => Below.refl _ _) (fun u => by first | (go_simp; done) | (go_simp; rfl)) ?_
   simp only [zg1, zg2, zg3, Act.put, zg4, zg5, zg6]
   refine zst 13 _ (.agg #[.int .i64 op, .int .i64 xa, .int .i64 xb, .string xt, .string xc, .string xn]) rfl (fun _ => Below.refl _ _) (fun u hu => by obtain ⟨q0, q1, q2, q3, q4, q5⟩ := HCD.out u (HX.out u (HWD.out.trans (hu.mono HWD.out.size))).2.2.2.1; first | (go_simp; done) | (go_simp; rfl)) ?_
   simp only [zg1, zg2, zg3, Act.put, zg4, zg5, zg6]
   refine zst 14 _ (.agg #[.slice aL nL cL, .slice aS nS cS]) rfl (fun _ => Below.refl _ _) (fun u hu => by have hR := (HX.out u (HWD.out.trans (hu.mono HWD.out.size))).2.2.1; exact (by have hl := run_loadVar_row (P := Tryz.prog) u b9 163 163 #[.slice aL nL cL, .slice aS nS cS] (0, 0) _ hR Tryz.underlying163 rfl (by kernel_rfl); (try simp only [List.getElem_toArray, List.getElem_cons_zero, List.getElem_cons_succ]); unfold execOp; simp only [Act.eval, Instr.loadAt, Instr.sureAddr, Sem.run_bind, Sem.run_pure]; change ((Sem.run Tryz.prog (loadVar 163 ⟨b9, 0, none⟩) u).andThen fun a w' => Result.ok (Next.value a) w') = _; rw [hl]; rfl)) ?_
   simp only [zg1, zg2, zg3, Act.put, zg4, zg5, zg6]
   refine s_two 15 19 _ _ rfl rfl (by kernel_rfl) ?_ ?_
   ·go_simp
    refine (HX.out WD (HWD.out.trans ((Below.refl _ _).mono HWD.out.size))).2.2.2.2.mono ?_
    rintro e wz ⟨hbz, gL, gS, rfl, ok1, ok2⟩
    obtain ⟨aG, cG, hvG⟩ := ok1.sl.val
    subst hvG
    obtain ⟨aJ, cJ, hvJ⟩ := ok2.sl.val
    subst hvJ
    have HKZ : Hid (FOut w0 wz ⟨.slice aG g.L.length cG, .slice aJ g.S.length cJ, g⟩) := hid (FOut.since (HBW1.out.trans ((HWD.out.trans ((Below.refl _ _).mono HWD.out.size)).mono HBW1.out.size)) ⟨ok1, ok2⟩)
    clear ok1 ok2
    have HBZ : Hid (Below WD.heap.size WD wz) := hid hbz
    refine ⟨(fun h => absurd h (by decide)), ?_⟩
    try simp only [zg1, zg2, zg3, Act.put, zg4, zg5, zg6]
    clear hbz
    refine zsd 16 _ _ rfl (fun h => absurd h (by decide)) ?_
    simp only [zg1, zg2, zg3, Act.put, zg4, zg5, zg6]
    refine zsd 17 _ _ rfl (fun h => absurd h (by decide)) ?_
    simp only [zg1, zg2, zg3, Act.put, zg4, zg5, zg6]
    refine zsd 18 _ _ rfl (fun h => absurd h (by decide)) ?_
    simp only [zg1, zg2, zg3, Act.put, zg4, zg5, zg6]
    refine s_only 19 _ rfl (by kernel_rfl) ?_
    obtain ⟨wy, hnx⟩ : ∃ wn, wz.alloc (.cells #[.slice none 0 0, .slice none 0 0] 163) = wn := ⟨_, rfl⟩
    obtain ⟨bz, hbz0⟩ : ∃ bz, wz.heap.size = bz := ⟨_, rfl⟩
    have HRZ : Hid (wy.heap[bz]? = some (.cells #[.slice none 0 0, .slice none 0 0] 163 (0, 0))) := hid (hnx ▸ hbz0 ▸ heap_alloc_new _ _)
    have HBA : Hid (Below WD.heap.size WD wy) := hid (hnx ▸ (HBZ.out).alloc (HBZ.out).size _)
    have HLE : Hid (WD.heap.size ≤ bz) := hid (hbz0 ▸ (HBZ.out).size)
    go_simp
    try rw [hnx, hbz0]
    refine ⟨(fun h => absurd h (by decide)), ?_⟩
    try simp only [zg1, zg2, zg3, Act.put, zg4, zg5, zg6]
    have HRY := HRZ
    have HBY := HBA
    have HKZ := hid (HKZ.out.later (hnx ▸ ext_alloc _ _))
    refine s_only 20 _ rfl (by kernel_rfl) ?_
    try rw [if_pos (by rfl)]
    refine wp_store_row 163 (.tmp 14) (.tmp 82) rfl bz #[.slice aG g.L.length cG, .slice aJ g.S.length cJ] rfl rfl 163 _ HRY.out (by kernel_rfl) rfl (by simp [Value.oneCell']) ?_
    obtain ⟨WE, hWE⟩ : ∃ WE, wy.setRow bz #[.slice aG g.L.length cG, .slice aJ g.S.length cJ] = WE := ⟨_, rfl⟩
    have HRE : Hid (WE.heap[bz]? = some (.cells #[.slice aG g.L.length cG, .slice aJ g.S.length cJ] 163 (0, 0))) := hid (hWE ▸ setRow_heap _ _ _ _ _ _ HRY.out)
    have HBE : Hid (Below WD.heap.size WD WE) := hid (hWE ▸ below_setRow HBY.out HLE.out _)
    have HKE : Hid (FOut w0 WE ⟨.slice aG g.L.length cG, .slice aJ g.S.length cJ, g⟩) := hid (hWE ▸ HKZ.out.setRow HRY.out (Nat.le_trans HBW1.out.size (Nat.le_trans HWD.out.size HLE.out)))
    try rw [hWE]
    refine ⟨(fun h => absurd h (by decide)), ?_⟩
    try simp only [zg1, zg2, zg3, Act.put, zg4, zg5, zg6]
    refine zsd 21 _ _ rfl (fun h => absurd h (by decide)) ?_
    simp only [zg1, zg2, zg3, Act.put, zg4, zg5, zg6]
    refine s_end (by kernel_rfl) ?_
    clear hnx hbz0 hWE HRZ HBA HRY HBY HBZ hwd
    have HBX := hid (HWD.out.trans (HBE.out.mono HWD.out.size))
    have HL3 := hid (HL1.out.later HBX.out)
    have HO3 := hid (HO1.out.trans (Ot2.of_below HBX.out))
    have HLB : Hid (w.heap.size ≤ bz ∧ A1.heap.size ≤ bz) := hid (by
     have h1 := HO1.out.1
     have h2 := HWD.out.size
     have h3 := HLE.out
     exact ⟨by omega, by omega⟩)
    obtain ⟨c0, c7, c8, c9, c10⟩ := HL3.out.cells
    rw [HACN.out.1, HACN.out.2] at c7
    have HAW := hid (HAF.out WE HL3.out.below)
    rw [HACN.out.1, HACN.out.2] at HAW
    have HTV : Hid (∀ gg, vT.ownBlock = some gg → gg < A1.heap.size) := hid (fun gg hgg => HL1.out.todo.lt hgg)
    clear HX
    go_wp2_with fail
    refine HAW.out.mono ?_
    rintro e w4 ⟨vn, rfl, hon⟩
    have HL4 := hid (HL3.out.later hon.below)
    have HK4 := hid (HKE.out.later hon.below)
    have HR4 := hid ((hon.below.block _ (zh HRE.out).1).trans HRE.out)
    have HO4 := hid (HO3.out.trans (Ot2.of_below hon.below))
    have HNS2 := hid hon.sl
    have HNB : Hid (∀ gg, vn.ownBlock = some gg → WE.heap.size ≤ gg ∧ gg < w4.heap.size) := hid (fun gg hgg => hon.own.lt gg hgg)
    obtain ⟨an, cn, hvn⟩ := hon.sl.val
    subst hvn
    have HSZ : Hid (A1.heap.size ≤ WE.heap.size ∧ WE.heap.size ≤ w4.heap.size) := hid ⟨HBX.out.size, hon.below.size⟩
    have HSR : Hid (∀ gg, (Value.slice an ns.length cn).ownBlock = some gg → ∃ cur, w4.heap[gg]? = some (.cells cur 3 (0, 0))) := hid (fun gg hgg => own_row hon hgg)
    clear hon c0 c7 c8 c9 c10 HAW
    go_wp2_with fail
    go_loopw [94] (fun v wr => ∃ (i : Nat) (v' : Value) (Q1 : QM) (T1 : List Int), i ≤ ns.length ∧ v = .int .i64 (i : Int) ∧ Hid (LK w0 wr K M b W r v' Q1 T1) ∧ Hid (Ot2 K vT.ownBlock w4 wr) ∧ Hid (v'.ownBlock = vT.ownBlock ∨ ∃ j, v'.ownBlock = some j ∧ w4.heap.size ≤ j) ∧ Hid (Z = meetsF W g (ns.drop i) (fmOf Q1, T1)) ∧ Hid (RightM W code.length q (fmOf Q1)) ∧ Hid (2 * pot W code.length q (fmOf Q1) + T1.length ≤ 100000000000) ∧ Hid (FOut w0 wr ⟨.slice aG g.L.length cG, .slice aJ g.S.length cJ, g⟩)) (fun v _ => ns.length - (intOf v).toNat)
    case atStart => exact ⟨0, _, _, _, Nat.zero_le _, rfl, HL4, hid (Ot2.refl _ _ _), hid (.inl rfl), HZG, HM, HN, HK4⟩
    case round =>
     obtain ⟨i, v', Q1, T1, hi, rfl, HL, HO, HA, HZ, HMM, HNN, HGF⟩ := hrel
     have hi0 : (0 : Int) ≤ (i : Int) := by omega
     obtain ⟨wb, hwb⟩ : ∃ wb, wb = wr := ⟨_, rfl⟩
     subst hwb
     have HBZ : Hid (wb.heap[bz]? = some (.cells #[.slice aG g.L.length cG, .slice aJ g.S.length cJ] 163 (0, 0))) := hid (HO.out.2 _ _ _ HR4.out (fun e => by
      have := HTV.out bz e
      have := HLB.out.2
      omega) (fun e => by
      have h1 := HL4.out.row
      rw [← e, HR4.out] at h1
      injection h1 with h1
      injection h1 with _ h1 _
      exact absurd h1 (by decide)))
     by_cases hlt : i < ns.length
     ·have hi1 : (i : Int) < (ns.length : Int) := by omega
      obtain ⟨bn, on, hbn, hcn⟩ := Sl.ints HNS2.out hlt
      subst hbn
      have hdn : wb.cell? ⟨bn, on + i, none⟩ = some (.int .i64 ns[i]) := by
       obtain ⟨cur, hcur⟩ := HSR.out bn rfl
       have hrow := HO.out.2 _ _ _ hcur (fun e => by
        have := HTV.out bn e
        have := (HNB.out bn rfl).1
        have := HSZ.out.1
        omega) (fun e => by
        have h1 := HL4.out.row
        rw [← e, hcur] at h1
        injection h1 with h1
        injection h1 with _ h1 _
        exact absurd h1 (by decide))
       rw [cell_of_row _ _ _ _ _ _ hcur] at hcn
       rw [cell_of_row _ _ _ _ _ _ hrow]
       exact hcn
      have HZD := hid (HZ.out.trans (meets_drop hlt))
      obtain ⟨hz0, hz1⟩ := HNX.out _ (List.getElem_mem hlt)
      have HZB := hid (And.intro hz0 hz1)
      generalize ns[i] = z at hdn HZD HZB
      have HMT := hid (meet_any z ⟨.slice aG g.L.length cG, .slice aJ g.S.length cJ, g⟩ HL.out HFL.out.closed (fun k f hkf => by
       obtain ⟨h1, h2⟩ := HMM.out.right k f hkf
       exact ⟨h1, by have := HQ.out; omega⟩) HGQ.out.1 (by have h1 := HGQ.out.2; have h2 := HQ.out; show g.L.length ≤ 1000000; omega) HGF.out (by have := HNN.out; omega))
      have e0 : wb.cell? ⟨bz, 0, none⟩ = some (.slice aG g.L.length cG) := by rw [cell_of_row _ _ _ _ _ _ HBZ.out]; rfl
      have e1 : wb.cell? ⟨bz, 1, none⟩ = some (.slice aJ g.S.length cJ) := by rw [cell_of_row _ _ _ _ _ _ HBZ.out]; rfl
      clear hcn hz0 hz1
      go_wp2_with fail
      refine HMT.out.mono ?_
      rintro e w5 ⟨ho5, hb5, h5⟩
      have HO5 := hid (HO.out.next ho5 HA.out)
      have HB5 := hid hb5
      have HGF5 := hid (HGF.out.ot2 HL.out ho5 hb5)
      try simp only at h5
      cases hm : meetF W (fmOf Q1, T1) z g with
      | none =>
       rw [hm] at h5
       subst h5
       have HZN : Hid (Z = none) := hid (by rw [HZD.out, hm]; rfl)
       clear hm ho5 hb5 e0 e1 hdn
       go_wp2_with fail
       go_ret
       exact meet_no HZN.out (HO4.out.trans HO5.out) HB5.out
      | some p =>
       rw [hm] at h5
       obtain ⟨rfl, v5, Q5, hL5, hfm, hA5⟩ := h5
       obtain ⟨P1, P2⟩ := p
       try simp only at hL5 hfm
       subst hfm
       obtain ⟨hmet, _⟩ := meet_met HFL.out.closed HMM.out HZB.out.1 HZB.out.2 HGQ.out.1 HGQ.out.2 hm
       have HL5 := hid hL5
       have HM5 : Hid (RightM W code.length q (fmOf Q5)) := hid hmet.right
       have HN5 : Hid (2 * pot W code.length q (fmOf Q5) + P2.length ≤ 100000000000) := hid (by have h1 := hmet.less; have h2 := HNN.out; simp only at h1; omega)
       have HA5 : Hid (v5.ownBlock = vT.ownBlock ∨ ∃ j, v5.ownBlock = some j ∧ w4.heap.size ≤ j) := hid (by
        rcases hA5 with q5 | ⟨j, q5, hj⟩
        ·rw [q5]; exact HA.out
        ·exact .inr ⟨j, q5, Nat.le_trans HO.out.1 hj⟩)
       have HZ5 : Hid (Z = meetsF W g (ns.drop (i + 1)) (fmOf Q5, P2)) := hid (by rw [HZD.out, hm]; rfl)
       clear hm ho5 hb5 hL5 hmet hA5 e0 e1 hdn
       go_wp2_with fail
       go_roundw
       case rel => exact ⟨i + 1, v5, Q5, P2, by omega, by simp, HL5, HO5, HA5, HZ5, HM5, HN5, HGF5⟩
       case measure => simp [intOf]; omega
     ·have HZE : Hid (Z = some (fmOf Q1, T1)) := hid (HZ.out.trans (meets_end hlt))
      obtain rfl : i = ns.length := by omega
      clear hlt hi0
      go_wp2_with fail
      go_ret
      exact meet_yes HZE.out (HO4.out.trans HO.out) HL.out (by
       rcases HA.out with q5 | ⟨j, q5, hj⟩
       ·exact .inl q5
       ·exact .inr ⟨j, q5, Nat.le_trans HO4.out.1 hj⟩)
   ·obtain ⟨wx, hnx⟩ : ∃ wn, WD.alloc (.cells #[.slice none 0 0, .slice none 0 0] 163) = wn := ⟨_, rfl⟩
    obtain ⟨bz, hbz0⟩ : ∃ bz, WD.heap.size = bz := ⟨_, rfl⟩
    have HRZ : Hid (wx.heap[bz]? = some (.cells #[.slice none 0 0, .slice none 0 0] 163 (0, 0))) := hid (hnx ▸ hbz0 ▸ heap_alloc_new _ _)
    have HBA : Hid (Below WD.heap.size WD wx) := hid (hnx ▸ ((Below.refl WD.heap.size WD)).alloc ((Below.refl WD.heap.size WD)).size _)
    have HLE : Hid (WD.heap.size ≤ bz) := hid (hbz0 ▸ ((Below.refl WD.heap.size WD)).size)
    go_simp
    try rw [hnx, hbz0]
    refine ⟨fun _ => (by first | exact HBA.out | (show Below _ WD wx; rw [← hbz0]; exact HBA.out)), ?_⟩
    try simp only [zg1, zg2, zg3, Act.put, zg4, zg5, zg6]
    refine s_only 15 _ rfl (by kernel_rfl) ?_
    go_simp
    refine (HX.out wx (HWD.out.trans (HBA.out.mono HWD.out.size))).2.2.2.2.mono ?_
    rintro e wz ⟨hbz, gL, gS, rfl, ok1, ok2⟩
    obtain ⟨aG, cG, hvG⟩ := ok1.sl.val
    subst hvG
    obtain ⟨aJ, cJ, hvJ⟩ := ok2.sl.val
    subst hvJ
    have HKZ : Hid (FOut w0 wz ⟨.slice aG g.L.length cG, .slice aJ g.S.length cJ, g⟩) := hid (FOut.since (HBW1.out.trans ((HWD.out.trans (HBA.out.mono HWD.out.size)).mono HBW1.out.size)) ⟨ok1, ok2⟩)
    clear ok1 ok2
    have HRY := hid ((hbz.block bz (zh HRZ.out).1).trans HRZ.out)
    have HBY := hid (HBA.out.trans (hbz.mono HBA.out.size))
    refine ⟨(fun h => absurd h (by decide)), ?_⟩
    try simp only [zg1, zg2, zg3, Act.put, zg4, zg5, zg6]
    clear hbz
    refine zsd 16 _ _ rfl (fun h => absurd h (by decide)) ?_
    simp only [zg1, zg2, zg3, Act.put, zg4, zg5, zg6]
    refine zsd 17 _ _ rfl (fun h => absurd h (by decide)) ?_
    simp only [zg1, zg2, zg3, Act.put, zg4, zg5, zg6]
    refine zsd 18 _ _ rfl (fun h => absurd h (by decide)) ?_
    simp only [zg1, zg2, zg3, Act.put, zg4, zg5, zg6]
    refine s_only 20 _ rfl (by kernel_rfl) ?_
    try rw [if_pos (by rfl)]
    refine wp_store_row 163 (.tmp 14) (.tmp 82) rfl bz #[.slice aG g.L.length cG, .slice aJ g.S.length cJ] rfl rfl 163 _ HRY.out (by kernel_rfl) rfl (by simp [Value.oneCell']) ?_
    obtain ⟨WE, hWE⟩ : ∃ WE, wz.setRow bz #[.slice aG g.L.length cG, .slice aJ g.S.length cJ] = WE := ⟨_, rfl⟩
    have HRE : Hid (WE.heap[bz]? = some (.cells #[.slice aG g.L.length cG, .slice aJ g.S.length cJ] 163 (0, 0))) := hid (hWE ▸ setRow_heap _ _ _ _ _ _ HRY.out)
    have HBE : Hid (Below WD.heap.size WD WE) := hid (hWE ▸ below_setRow HBY.out HLE.out _)
    have HKE : Hid (FOut w0 WE ⟨.slice aG g.L.length cG, .slice aJ g.S.length cJ, g⟩) := hid (hWE ▸ HKZ.out.setRow HRY.out (Nat.le_trans HBW1.out.size (Nat.le_trans HWD.out.size HLE.out)))
    try rw [hWE]
    refine ⟨(fun h => absurd h (by decide)), ?_⟩
    try simp only [zg1, zg2, zg3, Act.put, zg4, zg5, zg6]
    refine zsd 21 _ _ rfl (fun h => absurd h (by decide)) ?_
    simp only [zg1, zg2, zg3, Act.put, zg4, zg5, zg6]
    refine s_end (by kernel_rfl) ?_
    clear hnx hbz0 hWE HRZ HBA HRY HBY hwd
    have HBX := hid (HWD.out.trans (HBE.out.mono HWD.out.size))
    have HL3 := hid (HL1.out.later HBX.out)
    have HO3 := hid (HO1.out.trans (Ot2.of_below HBX.out))
    have HLB : Hid (w.heap.size ≤ bz ∧ A1.heap.size ≤ bz) := hid (by
     have h1 := HO1.out.1
     have h2 := HWD.out.size
     have h3 := HLE.out
     exact ⟨by omega, by omega⟩)
    obtain ⟨c0, c7, c8, c9, c10⟩ := HL3.out.cells
    rw [HACN.out.1, HACN.out.2] at c7
    have HAW := hid (HAF.out WE HL3.out.below)
    rw [HACN.out.1, HACN.out.2] at HAW
    have HTV : Hid (∀ gg, vT.ownBlock = some gg → gg < A1.heap.size) := hid (fun gg hgg => HL1.out.todo.lt hgg)
    clear HX
    go_wp2_with fail
    refine HAW.out.mono ?_
    rintro e w4 ⟨vn, rfl, hon⟩
    have HL4 := hid (HL3.out.later hon.below)
    have HK4 := hid (HKE.out.later hon.below)
    have HR4 := hid ((hon.below.block _ (zh HRE.out).1).trans HRE.out)
    have HO4 := hid (HO3.out.trans (Ot2.of_below hon.below))
    have HNS2 := hid hon.sl
    have HNB : Hid (∀ gg, vn.ownBlock = some gg → WE.heap.size ≤ gg ∧ gg < w4.heap.size) := hid (fun gg hgg => hon.own.lt gg hgg)
    obtain ⟨an, cn, hvn⟩ := hon.sl.val
    subst hvn
    have HSZ : Hid (A1.heap.size ≤ WE.heap.size ∧ WE.heap.size ≤ w4.heap.size) := hid ⟨HBX.out.size, hon.below.size⟩
    have HSR : Hid (∀ gg, (Value.slice an ns.length cn).ownBlock = some gg → ∃ cur, w4.heap[gg]? = some (.cells cur 3 (0, 0))) := hid (fun gg hgg => own_row hon hgg)
    clear hon c0 c7 c8 c9 c10 HAW
    go_wp2_with fail
    go_loopw [94] (fun v wr => ∃ (i : Nat) (v' : Value) (Q1 : QM) (T1 : List Int), i ≤ ns.length ∧ v = .int .i64 (i : Int) ∧ Hid (LK w0 wr K M b W r v' Q1 T1) ∧ Hid (Ot2 K vT.ownBlock w4 wr) ∧ Hid (v'.ownBlock = vT.ownBlock ∨ ∃ j, v'.ownBlock = some j ∧ w4.heap.size ≤ j) ∧ Hid (Z = meetsF W g (ns.drop i) (fmOf Q1, T1)) ∧ Hid (RightM W code.length q (fmOf Q1)) ∧ Hid (2 * pot W code.length q (fmOf Q1) + T1.length ≤ 100000000000) ∧ Hid (FOut w0 wr ⟨.slice aG g.L.length cG, .slice aJ g.S.length cJ, g⟩)) (fun v _ => ns.length - (intOf v).toNat)
    case atStart => exact ⟨0, _, _, _, Nat.zero_le _, rfl, HL4, hid (Ot2.refl _ _ _), hid (.inl rfl), HZG, HM, HN, HK4⟩
    case round =>
     obtain ⟨i, v', Q1, T1, hi, rfl, HL, HO, HA, HZ, HMM, HNN, HGF⟩ := hrel
     have hi0 : (0 : Int) ≤ (i : Int) := by omega
     obtain ⟨wb, hwb⟩ : ∃ wb, wb = wr := ⟨_, rfl⟩
     subst hwb
     have HBZ : Hid (wb.heap[bz]? = some (.cells #[.slice aG g.L.length cG, .slice aJ g.S.length cJ] 163 (0, 0))) := hid (HO.out.2 _ _ _ HR4.out (fun e => by
      have := HTV.out bz e
      have := HLB.out.2
      omega) (fun e => by
      have h1 := HL4.out.row
      rw [← e, HR4.out] at h1
      injection h1 with h1
      injection h1 with _ h1 _
      exact absurd h1 (by decide)))
     by_cases hlt : i < ns.length
     ·have hi1 : (i : Int) < (ns.length : Int) := by omega
      obtain ⟨bn, on, hbn, hcn⟩ := Sl.ints HNS2.out hlt
      subst hbn
      have hdn : wb.cell? ⟨bn, on + i, none⟩ = some (.int .i64 ns[i]) := by
       obtain ⟨cur, hcur⟩ := HSR.out bn rfl
       have hrow := HO.out.2 _ _ _ hcur (fun e => by
        have := HTV.out bn e
        have := (HNB.out bn rfl).1
        have := HSZ.out.1
        omega) (fun e => by
        have h1 := HL4.out.row
        rw [← e, hcur] at h1
        injection h1 with h1
        injection h1 with _ h1 _
        exact absurd h1 (by decide))
       rw [cell_of_row _ _ _ _ _ _ hcur] at hcn
       rw [cell_of_row _ _ _ _ _ _ hrow]
       exact hcn
      have HZD := hid (HZ.out.trans (meets_drop hlt))
      obtain ⟨hz0, hz1⟩ := HNX.out _ (List.getElem_mem hlt)
      have HZB := hid (And.intro hz0 hz1)
      generalize ns[i] = z at hdn HZD HZB
      have HMT := hid (meet_any z ⟨.slice aG g.L.length cG, .slice aJ g.S.length cJ, g⟩ HL.out HFL.out.closed (fun k f hkf => by
       obtain ⟨h1, h2⟩ := HMM.out.right k f hkf
       exact ⟨h1, by have := HQ.out; omega⟩) HGQ.out.1 (by have h1 := HGQ.out.2; have h2 := HQ.out; show g.L.length ≤ 1000000; omega) HGF.out (by have := HNN.out; omega))
      have e0 : wb.cell? ⟨bz, 0, none⟩ = some (.slice aG g.L.length cG) := by rw [cell_of_row _ _ _ _ _ _ HBZ.out]; rfl
      have e1 : wb.cell? ⟨bz, 1, none⟩ = some (.slice aJ g.S.length cJ) := by rw [cell_of_row _ _ _ _ _ _ HBZ.out]; rfl
      clear hcn hz0 hz1
      go_wp2_with fail
      refine HMT.out.mono ?_
      rintro e w5 ⟨ho5, hb5, h5⟩
      have HO5 := hid (HO.out.next ho5 HA.out)
      have HB5 := hid hb5
      have HGF5 := hid (HGF.out.ot2 HL.out ho5 hb5)
      try simp only at h5
      cases hm : meetF W (fmOf Q1, T1) z g with
      | none =>
       rw [hm] at h5
       subst h5
       have HZN : Hid (Z = none) := hid (by rw [HZD.out, hm]; rfl)
       clear hm ho5 hb5 e0 e1 hdn
       go_wp2_with fail
       go_ret
       exact meet_no HZN.out (HO4.out.trans HO5.out) HB5.out
      | some p =>
       rw [hm] at h5
       obtain ⟨rfl, v5, Q5, hL5, hfm, hA5⟩ := h5
       obtain ⟨P1, P2⟩ := p
       try simp only at hL5 hfm
       subst hfm
       obtain ⟨hmet, _⟩ := meet_met HFL.out.closed HMM.out HZB.out.1 HZB.out.2 HGQ.out.1 HGQ.out.2 hm
       have HL5 := hid hL5
       have HM5 : Hid (RightM W code.length q (fmOf Q5)) := hid hmet.right
       have HN5 : Hid (2 * pot W code.length q (fmOf Q5) + P2.length ≤ 100000000000) := hid (by have h1 := hmet.less; have h2 := HNN.out; simp only at h1; omega)
       have HA5 : Hid (v5.ownBlock = vT.ownBlock ∨ ∃ j, v5.ownBlock = some j ∧ w4.heap.size ≤ j) := hid (by
        rcases hA5 with q5 | ⟨j, q5, hj⟩
        ·rw [q5]; exact HA.out
        ·exact .inr ⟨j, q5, Nat.le_trans HO.out.1 hj⟩)
       have HZ5 : Hid (Z = meetsF W g (ns.drop (i + 1)) (fmOf Q5, P2)) := hid (by rw [HZD.out, hm]; rfl)
       clear hm ho5 hb5 hL5 hmet hA5 e0 e1 hdn
       go_wp2_with fail
       go_roundw
       case rel => exact ⟨i + 1, v5, Q5, P2, by omega, by simp, HL5, HO5, HA5, HZ5, HM5, HN5, HGF5⟩
       case measure => simp [intOf]; omega
     ·have HZE : Hid (Z = some (fmOf Q1, T1)) := hid (HZ.out.trans (meets_end hlt))
      obtain rfl : i = ns.length := by omega
      clear hlt hi0
      go_wp2_with fail
      go_ret
      exact meet_yes HZE.out (HO4.out.trans HO.out) HL.out (by
       rcases HA.out with q5 | ⟨j, q5, hj⟩
       ·exact .inl q5
       ·exact .inr ⟨j, q5, Nat.le_trans HO4.out.1 hj⟩)
theorem sum_le {f : Nat → Nat} {t : Nat} (h : ∀ i, f i ≤ t) : ∀ n, ((List.range n).map f).sum ≤ n * t
 | 0 => by simp
 | n + 1 => by
  have := sum_le h n
  have := h n
  rw [List.range_succ, List.map_append, List.sum_append, Nat.succ_mul]
  simp only [List.map_cons, List.map_nil, List.sum_cons, List.sum_nil]
  omega
theorem pot_le {W : WL} (hc : Closed W) {n q : Nat} {F : FM} (h : RightM W n q F) : pot W n q F ≤ n * topR W q := by
 refine sum_le (fun i => ?_) n
 unfold potAt
 cases hg : getK F (i : Int) with
 | none => exact Nat.le_refl _
 | some f =>
  obtain ⟨h1, h2⟩ := h.right _ f hg
  have := rankF_top hc h1
  rw [h2] at this
  exact Nat.le_of_lt this
theorem LK.pop {w0 w : World} {K M b : Nat} {W : WL} {r : MR} {vT v' : Value} {Q : QM} {T T' : List Int} (h : LK w0 w K M b W r vT Q T) (ho : OffOwn w 3 v' (T'.map (.int .i64))) (hb : ∀ g, v'.ownBlock = some g → vT.ownBlock = some g) :
  LK w0 (w.setCell ⟨K, 10, none⟩ v') K M b W r v' Q T' ∧ w.frozen? ⟨K, 10, none⟩ = false := by
 have hKT : ∀ g, v'.ownBlock = some g → g ≠ K := fun g hq e => by
  obtain ⟨cur, hc⟩ := off_row ho hq
  rw [e, h.row] at hc
  injection hc with hc
  injection hc with _ hc _
  exact absurd hc (by decide)
 refine ⟨⟨setCell_row h.row, h.wd, map_keep _ h.map (setCell_other h.neM.symm), fun p hp => ⟨out_put_other (h.frs p hp).oL h.row (by decide) h.le.1, out_put_other (h.frs p hp).oS h.row (by decide) h.le.1⟩, ho.keep fun g hq => setCell_other (hKT g hq), fun g hq => h.tb g (hb g hq), h.below.setCell h.le.1 _, h.le⟩, frozen_of_row _ _ _ _ _ h.row⟩
theorem row8 {w : World} {b : Nat} {v0 v1 v2 v3 v4 v5 v6 v7 : Value} {t : TypeId} (h : w.heap[b]? = some (.cells #[v0, v1, v2, v3, v4, v5, v6, v7] t (0, 0))) : w.cell? ⟨b, 0, none⟩ = some v0 ∧ w.cell? ⟨b, 1, none⟩ = some v1 ∧ w.cell? ⟨b, 2, none⟩ = some v2 ∧ w.cell? ⟨b, 3, none⟩ = some v3 ∧ w.cell? ⟨b, 4, none⟩ = some v4 ∧ w.cell? ⟨b, 5, none⟩ = some v5 ∧ w.cell? ⟨b, 6, none⟩ = some v6 ∧ w.cell? ⟨b, 7, none⟩ = some v7 := by
 refine ⟨?_, ?_, ?_, ?_, ?_, ?_, ?_, ?_⟩ <;> (rw [cell_of_row _ _ _ _ _ _ h]; rfl)
def LookedBy (w : World) (r : Option FM) (e : Ending) (w' : World) : Prop := Below w.heap.size w w' ∧ match r with
 | none => e = .returned (.tuple #[.map none, .bool false])
 | some _ => ∃ M, e = .returned (.tuple #[.map (some M), .bool true])
theorem looked_no {w w' : World} {r : Option FM} (hr : r = none) (hb : Below w.heap.size w w') : LookedBy w r (.returned (.tuple #[.map none, .bool false])) w' := by subst hr; exact ⟨hb, rfl⟩
theorem looked_yes {w w' : World} {r : Option FM} {F : FM} {M : Nat} (hr : r = some F) (hb : Below w.heap.size w w') : LookedBy w r (.returned (.tuple #[.map (some M), .bool true])) w' := by subst hr; exact ⟨hb, M, rfl⟩
theorem looked_any (W : WL) (b : Nat) (cls nm ty : ByteArray) (ab pr : Bool) (lo : Int) (ac ah : Option Addr) (nc cc ch : Nat) (code : List I) (ts : List (List UInt8)) (g : List UInt8) (w : World) (hW : Wd w b W) (hF : Flat W) (hm : methodOf ty.data.toList = some (ts, g)) (h0 : 0 ≤ lo) (h8 : lo ≤ 8) (hlo : ts.length ≤ lo.toNat)
  (hcf : codeFault code = 0) (hcode : flows.Code w (.slice ac nc cc) code) :
  Calls Tryz.prog 49 #[.map (some b), .string cls, .agg #[.string nm, .string ty, .bool true, .bool ab, .bool pr, .int .i64 lo, .slice ac nc cc, .slice ah 0 ch]] w (LookedBy w (lookedF W cls ⟨nm, ty, true, ab, pr, lo, .slice ac nc cc, .slice ah 0 ch, code, []⟩)) := by
 obtain ⟨Z, hZ⟩ : ∃ Z, lookedF W cls ⟨nm, ty, true, ab, pr, lo, .slice ac nc cc, .slice ah 0 ch, code, []⟩ = Z := ⟨_, rfl⟩
 rw [hZ]
 obtain ⟨q, rfl⟩ : ∃ q : Nat, lo = (q : Int) := ⟨lo.toNat, by omega⟩
 rw [Int.toNat_natCast] at hlo
 obtain ⟨P, hP⟩ : ∃ P, ts.map bs ++ List.replicate (q - ts.length) tT = P := ⟨_, rfl⟩
 have hPl : P.length = q := by rw [← hP]; exact pad_len ts hlo
 have hq8 : q ≤ 8 := by omega
 have HZ : Hid (Z = if (P.all fun k => decide (kindF W k.data.toList = 0)) = false ∨ (g ≠ [86] ∧ kindF W g ≠ 0) then none else workF W cls (bs g) code (2 * (code.length * topR W q) + 2) ([(0, ⟨P, []⟩)], [0])) := hid (by
  rw [← hZ]
  unfold lookedF
  rw [hm]
  simp only [firstFr, looksN, Int.toNat_natCast, hP])
 have hfi := cfirst_any cls nm ty ab pr (q : Int) ac ah nc cc 0 ch ts g
 simp only [Int.toNat_natCast, hP] at hfi
 have HFI := hid (fun u => hfi u hm (by omega) h8 hlo)
 have HPS : Hid (∀ k ∈ P, k.size ≤ 1000000) := hid (fun k hk => by
  rw [← hP] at hk
  rcases List.mem_append.1 hk with hk | hk
  ·obtain ⟨u, hu, rfl⟩ := List.mem_map.1 hk
   have hty : isTy u = true := List.all_eq_true.1 (text_small (make_method hm).1).2.1 u hu
   have hty2 : isTy (bs u).data.toList = true := by rw [bs_data]; exact hty
   have := ins.isTy_size hty2
   omega
  ·rw [(List.mem_replicate.1 hk).2]; decide)
 have hgv := (text_small (make_method hm).1).2.2.2.2
 obtain ⟨hgood, hne, hcl⟩ := good_code hcf
 have HGC := hid hgood; have HCL := hid hcl; have HNE := hid hne; have HCO := hid hcode; have HW := hid hW; have HF := hid hF; have HGV := hid hgv; have HPL := hid hPl; have HQ8 := hid hq8
 obtain ⟨b5, hb5⟩ : ∃ b5, w.heap.size = b5 := ⟨_, rfl⟩
 obtain ⟨A1, hA1⟩ : ∃ A1, w.alloc (.cells #[.string nm, .string ty, .bool true, .bool ab, .bool pr, .int .i64 (q : Int), .slice ac nc cc, .slice ah 0 ch] 44) = A1 := ⟨_, rfl⟩
 have B1 : Below w.heap.size w A1 := hA1 ▸ ext_alloc _ _
 have HR5 : Hid (A1.heap[b5]? = some (.cells #[.string nm, .string ty, .bool true, .bool ab, .bool pr, .int .i64 (q : Int), .slice ac nc cc, .slice ah 0 ch] 44 (0, 0))) := hid (by rw [← hA1, ← hb5]; exact heap_alloc_new _ _)
 have HB1 := hid B1
 have hmm := @run_makeMap Tryz.prog
 obtain ⟨m0, m1, m2, m3, m4, m5, m6, m7⟩ := row8 HR5.out
 clear hZ hW hF hm h0 h8 hlo hcf hcode hP hPl hfi hgv hgood hne hcl B1
 obtain ⟨M, hM⟩ : ∃ M, A1.heap.size = M := ⟨_, rfl⟩
 obtain ⟨A2, hA2⟩ : ∃ A2, A1.alloc (.map #[] 0) = A2 := ⟨_, rfl⟩
 obtain ⟨K, hK⟩ : ∃ K, A2.heap.size = K := ⟨_, rfl⟩
 obtain ⟨A3, hA3⟩ : ∃ A3, A2.alloc (.cells #[.map (some b), .string nm, .string ty, .bool true, .bool ab, .bool pr, .int .i64 (q : Int), .slice ac nc cc, .slice ah 0 ch, .map (some M), .slice none 0 0] 161) = A3 := ⟨_, rfl⟩
 have B2 : Below A1.heap.size A1 A2 := hA2 ▸ ext_alloc _ _
 have B3 : Below A2.heap.size A2 A3 := hA3 ▸ ext_alloc _ _
 have B13 := B2.trans (B3.mono B2.size)
 have HLK : Hid (LK w A3 K M b W ⟨nm, ty, true, ab, pr, (q : Int), ac, nc, cc, ah, 0, ch⟩ (.slice none 0 0) [] []) := hid (by
  have hm1 : A2.heap[M]? = some (.map #[] 0) := by rw [← hA2, ← hM]; exact heap_alloc_new _ _
  refine ⟨by rw [← hA3, ← hK]; exact heap_alloc_new _ _, HW.out, ⟨#[], 0, (B3.block _ (zh hm1).1).trans hm1, rfl⟩, fun p hp => absurd hp List.not_mem_nil, OffOwn.nil _ _, (fun g hg => by cases hg), HB1.out.trans (B13.mono HB1.out.size), ⟨?_, ?_⟩⟩
  ·rw [← hK]; exact Nat.le_trans HB1.out.size B2.size
  ·rw [← hM]; exact HB1.out.size)
 have HR53 := hid ((B13.block _ (zh HR5.out).1).trans HR5.out)
 obtain ⟨n0, n1, n2, n3, n4, n5, n6, n7⟩ := row8 HR53.out
 clear B2 B3 B13
 go_enter Tryz.func49, Tryz.ntmps49
 go_wp2_with fail
 clear hA1 hA2 hA3 hM hK m0 m1 m2 m3 m4 m5 m6 m7 n0 n1 n2 n3 n4 n5 n6 n7 HR53 HR5
 refine (HFI.out _).mono ?_
 rintro e w4 ⟨vL, rfl, ho4⟩
 obtain ⟨aP, cP, hvP⟩ := ho4.sl.val
 subst hvP
 obtain ⟨A5, hA5⟩ : ∃ A5, w4.alloc (.cells #[.slice aP q cP, .slice none 0 0] 163) = A5 := ⟨_, rfl⟩
 have B5 : Below w4.heap.size w4 A5 := hA5 ▸ ext_alloc _ _
 have HL5 := hid (HLK.out.later (ho4.below.trans (B5.mono ho4.below.size)))
 have HR9 : Hid (A5.heap[w4.heap.size]? = some (.cells #[.slice aP q cP, .slice none 0 0] 163 (0, 0))) := hid (by rw [← hA5]; exact heap_alloc_new _ _)
 have HFO : Hid (FOut w A5 ⟨.slice aP q cP, .slice none 0 0, ⟨P, []⟩⟩) := hid ⟨by show Out w A5 9 1 (.slice aP q cP) P.length (P.map .string); rw [HPL.out]; exact Out.since HLK.out.below (ho4.later B5), nil_own HL5.out.below _ _⟩
 have HSP : Hid (Sl A5 (.slice aP q cP) q 1 (P.map .string)) := hid ((ho4.later B5).sl)
 have HA5 := hid hA5
 clear ho4 B5 HLK HFI hA5
 go_wp2_with fail
 rw [HA5.out]
 obtain ⟨b9, hb9⟩ : ∃ b9, w4.heap.size = b9 := ⟨_, rfl⟩
 rw [hb9] at HR9 ⊢
 clear hb9 HA5
 go_loopw [28] (fun v wr => ∃ i : Nat, i ≤ q ∧ v = .int .i64 (i : Int) ∧ Hid (Below A5.heap.size A5 wr) ∧ Hid (∀ k ∈ P.take i, kindF W k.data.toList = 0)) (fun v _ => q - (intOf v).toNat)
 case atStart => exact ⟨0, Nat.zero_le _, rfl, hid (Below.refl _ _), hid (fun k hk => by simp at hk)⟩
 case round =>
  obtain ⟨i, hi, rfl, HBR, HKS⟩ := hrel
  have hi0 : (0 : Int) ≤ (i : Int) := by omega
  obtain ⟨wb, hwb⟩ : ∃ wb, wb = wr := ⟨_, rfl⟩
  subst hwb
  by_cases hlt : i < q
  ·have hi1 : (i : Int) < (q : Int) := by omega
   obtain ⟨bb, off, hbo, hd0⟩ := text_atn HPL.out (HSP.out.below HBR.out) hlt
   subst hbo
   have hip : i < P.length := by rw [HPL.out]; exact hlt
   have HMEM := hid (List.getElem_mem hip)
   have HTK := hid (List.take_succ_eq_append_getElem hip)
   have HKD := hid (kind_any W b P[i] wb ((HW.out.at_.below HL5.out.below).below HBR.out) (by have := HPS.out _ (List.getElem_mem hip); omega))
   generalize P[i] = x at hd0 HMEM HTK HKD
   clear hip
   by_cases hz : kindF W x.data.toList = 0
   ·rw [hz, show errVal 0 = .nilIface from rfl] at HKD
    have HK2 : Hid (∀ k ∈ P.take (i + 1), kindF W k.data.toList = 0) := hid (fun k hk => by
     rw [HTK.out] at hk
     rcases List.mem_append.1 hk with hk | hk
     ·exact HKS.out k hk
     ·rw [List.mem_singleton.1 hk]; exact hz)
    clear hz HMEM HTK
    go_wp2_with fail
    refine HKD.out.mono ?_
    rintro e w6 ⟨rfl, hb6⟩
    have HB6 := hid (HBR.out.trans (hb6.mono HBR.out.size))
    clear hb6
    go_wp2_with fail
    go_roundw
    case rel => exact ⟨i + 1, by omega, by simp, HB6, HK2⟩
    case measure => simp [intOf]; omega
   ·have HZN : Hid (Z = none) := hid (by
     have hfa : (P.all fun k => decide (kindF W k.data.toList = 0)) = false := by
      cases hall : (P.all fun k => decide (kindF W k.data.toList = 0)) with
      | false => rfl
      | true =>
       have := List.all_eq_true.1 hall x HMEM.out
       rw [decide_eq_true_eq] at this
       exact absurd this hz
     rw [HZ.out, if_pos (.inl hfa)])
    obtain ⟨z, hzz⟩ : ∃ z, kindF W x.data.toList = z := ⟨_, rfl⟩
    rw [hzz] at HKD hz
    have HEV : Hid (errVal z = .iface 53 (.int .i64 z)) := hid (by unfold errVal; rw [if_neg hz])
    rw [HEV.out] at HKD
    clear hz hzz HMEM HTK
    go_wp2_with fail
    refine HKD.out.mono ?_
    rintro e w6 ⟨rfl, hb6⟩
    have HB6 := hid (HL5.out.below.trans ((HBR.out.trans (hb6.mono HBR.out.size)).mono HL5.out.below.size))
    clear hb6
    go_wp2_with fail
    go_ret2
    exact looked_no HZN.out HB6.out
  ·have HALL : Hid (∀ k ∈ P, kindF W k.data.toList = 0) := hid (fun k hk => HKS.out k (by rw [List.take_of_length_le (by rw [HPL.out]; omega)]; exact hk))
   obtain rfl : q = i := by omega
   have HZ2 : Hid (Z = if g ≠ [86] ∧ kindF W g ≠ 0 then none else workF W cls (bs g) code (2 * (code.length * topR W q) + 2) ([(0, ⟨P, []⟩)], [0])) := hid (by
    have hno : (P.all fun k => decide (kindF W k.data.toList = 0)) = true := List.all_eq_true.2 fun k hk => decide_eq_true (HALL.out k hk)
    rw [HZ.out]
    by_cases hg2 : g ≠ [86] ∧ kindF W g ≠ 0
    ·rw [if_pos (.inr hg2), if_pos hg2]
    ·rw [if_neg (fun e => by rcases e with e | e; rw [hno] at e; cases e; exact hg2 e), if_neg hg2])
   have HRF : Hid (RightF W ⟨P, []⟩) := hid ⟨fun k hk => kind_right.1 (HALL.out k hk), ⟨fun k hk => absurd hk List.not_mem_nil, by show ([] : List ByteArray).length ≤ 8; decide⟩⟩
   have HWK : Hid (Works W cls (bs g) code q ([(0, ⟨P, []⟩)], [0])) := hid (by
    have hget : ∀ (k : Int) (f : Fr), getK ([(0, ⟨P, []⟩)] : FM) k = some f → k = 0 ∧ f = ⟨P, []⟩ := fun k f hkf => by
     simp only [getK] at hkf
     split at hkf
     ·rename_i e; exact ⟨e, (Option.some.inj hkf).symm⟩
     ·cases hkf
    have hcl0 : 0 < code.length := List.length_pos_iff.2 HNE.out
    refine ⟨⟨fun k f hkf => ?_, fun k f hkf => ?_⟩, fun a ha => ?_, fun a f hkf => ?_⟩
    ·obtain ⟨rfl, rfl⟩ := hget k f hkf
     exact ⟨HRF.out, HPL.out⟩
    ·obtain ⟨rfl, rfl⟩ := hget k f hkf
     omega
    ·obtain rfl := List.mem_singleton.1 ha
     rfl
    ·obtain ⟨rfl, rfl⟩ := hget a f hkf
     exact .inl (List.mem_singleton_self _))
   have HPQ : Hid (pot W code.length q ([(0, ⟨P, []⟩)] : FM) ≤ code.length * topR W q) := hid (pot_le HF.out.closed HWK.out.right)
   have HPB : Hid (2 * pot W code.length q ([(0, ⟨P, []⟩)] : FM) + 1 ≤ 100000000000) := hid (by
    have h1 := HPQ.out
    have h2 : topR W q ≤ 1100000000 := by
     unfold topR
     have h3 : (q + 8) * (5 * (most W + 2)) ≤ 16 * (5 * (13000001 + 2)) := Nat.mul_le_mul (by omega) (by have := HW.out.most; omega)
     omega
    have h3 : code.length * topR W q ≤ 40 * 1100000000 := Nat.mul_le_mul HCL.out h2
    omega)
   clear HALL HKS hlt hi hi0
   have HL6 := hid (HL5.out.later HBR.out)
   have HR6 := hid ((HBR.out.block _ (zh HR9.out).1).trans HR9.out)
   have HFO6 := hid (HFO.out.later HBR.out)
   have HGVT : Hid (bs g = { data := #[86] } ∨ isTy (bs g).data.toList = true) := hid (by
    rcases HGV.out with e | e
    ·exact .inl (by rw [e]; rfl)
    ·exact .inr (by rw [bs_data]; exact e))
   by_cases hgV : g = [86]
   ·have HZW : Hid (∀ N, 2 * pot W code.length q ([(0, ⟨P, []⟩)] : FM) + 1 < N → Z = workF W cls (bs g) code N ([(0, ⟨P, []⟩)], [0])) := hid (fun N hN => by
     rw [HZ2.out, if_neg (fun e => e.1 hgV)]
     exact work_enough HF.out.closed HGC.out _ _ HWK.out (by have := HPQ.out; simp only [List.length_singleton]; omega) hN)
    have q0 : (bs g).toList = [86] := by rw [ByteArray.toList_eq, bs_data, hgV]
    have q1 : ((bs g).toList == [86]) = true := by rw [q0]; rfl
    have q3 : ((bs g).toList != [86]) = false := by rw [bne, q1]; rfl
    clear hgV HZ2 HZ
    have z0 : (wb).cell? ⟨b9, 0, none⟩ = some (.slice aP q cP) := by rw [cell_of_row _ _ _ _ _ _ HR6.out]; rfl
    have z1 : (wb).cell? ⟨b9, 1, none⟩ = some (.slice none 0 0) := by rw [cell_of_row _ _ _ _ _ _ HR6.out]; rfl
    have HMT := hid (meet_any 0 ⟨.slice aP q cP, .slice none 0 0, ⟨P, []⟩⟩ HL6.out HF.out.closed (fun k f hkf => by cases hkf) HRF.out (by show P.length ≤ 1000000; rw [HPL.out]; omega) HFO6.out (by simp))
    go_wp2_with fail
    refine HMT.out.mono ?_
    rintro e w7 ⟨ho7, hb7, h7⟩
    rw [show meetF W (fmOf [], []) 0 (⟨P, []⟩ : Fr) = some ([(0, ⟨P, []⟩)], [0]) from rfl] at h7
    obtain ⟨rfl, v7, Q7, hL7, hfm7, _⟩ := h7
    simp only at hL7 hfm7
    have HL7 := hid hL7
    have HWK7 : Hid (Works W cls (bs g) code q (fmOf Q7, [0])) := hid (by rw [hfm7]; exact HWK.out)
    have HZ7 : Hid (∀ N, 2 * pot W code.length q (fmOf Q7) + 1 < N → Z = workF W cls (bs g) code N (fmOf Q7, [0])) := hid (by rw [hfm7]; exact HZW.out)
    have HB7 : Hid (2 * pot W code.length q (fmOf Q7) + 1 ≤ 100000000000) := hid (by rw [hfm7]; exact HPB.out)
    clear ho7 hb7 hL7 hfm7 z0 z1 HMT
    go_wp2_with fail
    go_loopg [] (2 * pot W code.length q (fmOf Q7) + 1) (fun gh wr => ∃ (v : Value) (Q : QM) (T : List Int), gh = 2 * pot W code.length q (fmOf Q) + T.length ∧ Hid (LK w wr K M b W ⟨nm, ty, true, ab, pr, (q : Int), ac, nc, cc, ah, 0, ch⟩ v Q T) ∧ Hid (Works W cls (bs g) code q (fmOf Q, T)) ∧ Hid (∀ N, 2 * pot W code.length q (fmOf Q) + T.length < N → Z = workF W cls (bs g) code N (fmOf Q, T)) ∧ Hid (2 * pot W code.length q (fmOf Q) + T.length ≤ 100000000000))
    case atStart => exact ⟨v7, Q7, [0], rfl, HL7, HWK7, HZ7, HB7⟩
    case round =>
     obtain ⟨v, Q, T, hgh, HL, HWW, HZZ, HBB⟩ := hrel
     have HGH := hid hgh
     clear hgh
     obtain ⟨wb, hwb⟩ : ∃ wb, wb = wr := ⟨_, rfl⟩
     subst hwb
     cases T with
     | nil =>
      obtain ⟨aT, cT, hvT, _, _⟩ := HL.out.todo.cells
      subst hvT
      obtain ⟨c0, c7, c8, c9, c10⟩ := HL.out.cells
      have c10' : wb.cell? ⟨K, 10, none⟩ = some (.slice aT 0 cT) := c10
      have HZE : Hid (Z = some (fmOf Q)) := hid (HZZ.out (2 * pot W code.length q (fmOf Q) + 0 + 1) (by simp))
      clear c10
      go_wp2_with fail
      go_ret2
      exact looked_yes HZE.out HL.out.below
     | cons a rest =>
      obtain ⟨f0, hf0⟩ := Option.isSome_iff_exists.1 (HWW.out.todo a (List.mem_cons_self ..))
      obtain ⟨ha0, han⟩ := HWW.out.right.keys a f0 hf0
      obtain ⟨k, rfl⟩ : ∃ k : Nat, a = (k : Int) := ⟨a.toNat, by omega⟩
      have hkn : k < code.length := by omega
      obtain ⟨aT, cT, hvT, _, _⟩ := HL.out.todo.cells
      rw [show (((k : Int) :: rest).map (Value.int .i64)).length = rest.length + 1 by rw [List.length_map, List.length_cons]] at hvT
      subst hvT
      obtain ⟨c0, c7, c8, c9, c10⟩ := HL.out.cells
      obtain ⟨gb, off, hag, hn2, hnc, hgy, htail⟩ := OffOwn.tail (x := .int .i64 (k : Int)) (xs := rest.map (.int .i64)) HL.out.todo
      subst hag
      have HTL : Hid (OffOwn wb 3 (.slice (if cT = 1 then some ⟨gb, off, none⟩ else some ⟨gb, off + 1, none⟩) rest.length (cT - 1)) (rest.map (.int .i64))) := hid (by
       rw [List.length_map] at htail
       by_cases h1 : cT = 1
       ·rw [if_pos h1] at htail ⊢; exact htail
       ·rw [if_neg h1] at htail ⊢; simpa [Addr.add] using htail)
      have HPO := hid (HL.out.pop HTL.out (fun gq hgq => by
       by_cases h1 : cT = 1
       ·rw [if_pos h1] at hgq; exact hgq
       ·rw [if_neg h1] at hgq; exact hgq))
      obtain ⟨AD, hAD⟩ : ∃ AD, (if cT = 1 then some (⟨gb, off, none⟩ : Addr) else some ⟨gb, off + 1, none⟩) = AD := ⟨_, rfl⟩
      rw [hAD] at HPO
      obtain ⟨hL8, f8⟩ := HPO.out
      have HL8 := hid hL8
      have HKN := hid hkn
      have HKS := hid (HWW.out.todo (k : Int) (List.mem_cons_self ..))
      have hrl : rest.length ≤ 100000000000 := by have h1 := HBB.out; rw [List.length_cons] at h1; omega
      have hct : rest.length + 1 ≤ cT := hnc
      have HLKA := hid (look_any cls (bs g) code k q HL8.out HF.out (HCO.out) HCL.out rfl HGC.out HWW.out.right HQ8.out (by have h1 := HBB.out; rw [List.length_cons] at h1; omega) HKS.out HKN.out HGVT.out)
      clear hL8 hf0 ha0 han hkn htail HPO c0 c7 c8 c9 HTL hn2 hnc
      go_wp2_with fail
      try rw [hAD]
      refine HLKA.out.mono ?_
      rintro e w9 ⟨ho9, hb9, h9⟩
      have HB9 := hid hb9
      cases hlf : lookF W cls (bs g) code (fmOf Q, rest) (k : Int) with
      | none =>
       rw [hlf] at h9
       subst h9
       have HZN : Hid (Z = none) := hid (by
        rw [HZZ.out (2 * pot W code.length q (fmOf Q) + ((k : Int) :: rest).length + 1) (by omega)]
        show (lookF W cls (bs g) code (fmOf Q, rest) (k : Int)).bind _ = none
        rw [hlf]; rfl)
       clear hlf ho9 hb9 hAD c10 hgy f8
       go_wp2_with fail
       go_ret2
       exact looked_no HZN.out HB9.out
      | some pq =>
       rw [hlf] at h9
       obtain ⟨rfl, v9, Q9, hL9, hfm9, _⟩ := h9
       obtain ⟨P1, P2⟩ := pq
       simp only at hL9 hfm9
       subst hfm9
       obtain ⟨hw9, _, hless9⟩ := look_works HF.out.closed HGC.out HWW.out hlf
       simp only at hless9
       have HL9 := hid hL9
       have HW9 := hid hw9
       have HLS9 := hid hless9
       have HZ9 : Hid (∀ N, 2 * pot W code.length q (fmOf Q9) + P2.length < N → Z = workF W cls (bs g) code N (fmOf Q9, P2)) := hid (fun N hN => by
        have hbig : 2 * pot W code.length q (fmOf Q) + ((k : Int) :: rest).length < N + 1 + (2 * pot W code.length q (fmOf Q) + ((k : Int) :: rest).length) + 1 := by omega
        rw [HZZ.out _ hbig]
        show (lookF W cls (bs g) code (fmOf Q, rest) (k : Int)).bind _ = _
        rw [hlf]
        exact work_enough HF.out.closed HGC.out _ _ hw9 (by simp only; omega) hN)
       clear hlf ho9 hb9 hL9 hw9 hless9 hAD c10 hgy f8
       go_wp2_with fail
       go_roundg (2 * pot W code.length q (fmOf Q9) + P2.length)
       case rel => exact ⟨v9, Q9, P2, rfl, HL9, HW9, HZ9, hid (by have h1 := HBB.out; have h2 := HLS9.out; omega)⟩
       case measure => have h1 := HGH.out; have h2 := HLS9.out; omega
   ·have q0 : ¬ (bs g).toList = [86] := by rw [ByteArray.toList_eq, bs_data]; exact hgV
    have q1 : ((bs g).toList == [86]) = false := by simpa using q0
    have q3 : ((bs g).toList != [86]) = true := by rw [bne, q1]; rfl
    have HKG := hid (kind_any W b (bs g) wb HL6.out.wd'.at_ (by
     rcases HGVT.out with e | e
     ·rw [e]; decide
     ·have := ins.isTy_size e; omega))
    rw [bs_data] at HKG
    by_cases hz : kindF W g = 0
    ·have HZW : Hid (∀ N, 2 * pot W code.length q ([(0, ⟨P, []⟩)] : FM) + 1 < N → Z = workF W cls (bs g) code N ([(0, ⟨P, []⟩)], [0])) := hid (fun N hN => by
      rw [HZ2.out, if_neg (fun e => e.2 hz)]
      exact work_enough HF.out.closed HGC.out _ _ HWK.out (by have := HPQ.out; simp only [List.length_singleton]; omega) hN)
     rw [hz, show errVal 0 = .nilIface from rfl] at HKG
     clear hgV HZ2 HZ hz
     go_wp2_with fail
     refine HKG.out.mono ?_
     rintro e w6 ⟨rfl, hb6⟩
     have HL66 := hid (HL6.out.later hb6)
     have HR66 := hid ((hb6.block _ (zh HR6.out).1).trans HR6.out)
     have HFO66 := hid (HFO6.out.later hb6)
     clear hb6
     have z0 : (w6).cell? ⟨b9, 0, none⟩ = some (.slice aP q cP) := by rw [cell_of_row _ _ _ _ _ _ HR66.out]; rfl
     have z1 : (w6).cell? ⟨b9, 1, none⟩ = some (.slice none 0 0) := by rw [cell_of_row _ _ _ _ _ _ HR66.out]; rfl
     have HMT := hid (meet_any 0 ⟨.slice aP q cP, .slice none 0 0, ⟨P, []⟩⟩ HL66.out HF.out.closed (fun k f hkf => by cases hkf) HRF.out (by show P.length ≤ 1000000; rw [HPL.out]; omega) HFO66.out (by simp))
     go_wp2_with fail
     refine HMT.out.mono ?_
     rintro e w7 ⟨ho7, hb7, h7⟩
     rw [show meetF W (fmOf [], []) 0 (⟨P, []⟩ : Fr) = some ([(0, ⟨P, []⟩)], [0]) from rfl] at h7
     obtain ⟨rfl, v7, Q7, hL7, hfm7, _⟩ := h7
     simp only at hL7 hfm7
     have HL7 := hid hL7
     have HWK7 : Hid (Works W cls (bs g) code q (fmOf Q7, [0])) := hid (by rw [hfm7]; exact HWK.out)
     have HZ7 : Hid (∀ N, 2 * pot W code.length q (fmOf Q7) + 1 < N → Z = workF W cls (bs g) code N (fmOf Q7, [0])) := hid (by rw [hfm7]; exact HZW.out)
     have HB7 : Hid (2 * pot W code.length q (fmOf Q7) + 1 ≤ 100000000000) := hid (by rw [hfm7]; exact HPB.out)
     clear ho7 hb7 hL7 hfm7 z0 z1 HMT
     go_wp2_with fail
     go_loopg [] (2 * pot W code.length q (fmOf Q7) + 1) (fun gh wr => ∃ (v : Value) (Q : QM) (T : List Int), gh = 2 * pot W code.length q (fmOf Q) + T.length ∧ Hid (LK w wr K M b W ⟨nm, ty, true, ab, pr, (q : Int), ac, nc, cc, ah, 0, ch⟩ v Q T) ∧ Hid (Works W cls (bs g) code q (fmOf Q, T)) ∧ Hid (∀ N, 2 * pot W code.length q (fmOf Q) + T.length < N → Z = workF W cls (bs g) code N (fmOf Q, T)) ∧ Hid (2 * pot W code.length q (fmOf Q) + T.length ≤ 100000000000))
     case atStart => exact ⟨v7, Q7, [0], rfl, HL7, HWK7, HZ7, HB7⟩
     case round =>
      obtain ⟨v, Q, T, hgh, HL, HWW, HZZ, HBB⟩ := hrel
      have HGH := hid hgh
      clear hgh
      obtain ⟨wb, hwb⟩ : ∃ wb, wb = wr := ⟨_, rfl⟩
      subst hwb
      cases T with
      | nil =>
       obtain ⟨aT, cT, hvT, _, _⟩ := HL.out.todo.cells
       subst hvT
       obtain ⟨c0, c7, c8, c9, c10⟩ := HL.out.cells
       have c10' : wb.cell? ⟨K, 10, none⟩ = some (.slice aT 0 cT) := c10
       have HZE : Hid (Z = some (fmOf Q)) := hid (HZZ.out (2 * pot W code.length q (fmOf Q) + 0 + 1) (by simp))
       clear c10
       go_wp2_with fail
       go_ret2
       exact looked_yes HZE.out HL.out.below
      | cons a rest =>
       obtain ⟨f0, hf0⟩ := Option.isSome_iff_exists.1 (HWW.out.todo a (List.mem_cons_self ..))
       obtain ⟨ha0, han⟩ := HWW.out.right.keys a f0 hf0
       obtain ⟨k, rfl⟩ : ∃ k : Nat, a = (k : Int) := ⟨a.toNat, by omega⟩
       have hkn : k < code.length := by omega
       obtain ⟨aT, cT, hvT, _, _⟩ := HL.out.todo.cells
       rw [show (((k : Int) :: rest).map (Value.int .i64)).length = rest.length + 1 by rw [List.length_map, List.length_cons]] at hvT
       subst hvT
       obtain ⟨c0, c7, c8, c9, c10⟩ := HL.out.cells
       obtain ⟨gb, off, hag, hn2, hnc, hgy, htail⟩ := OffOwn.tail (x := .int .i64 (k : Int)) (xs := rest.map (.int .i64)) HL.out.todo
       subst hag
       have HTL : Hid (OffOwn wb 3 (.slice (if cT = 1 then some ⟨gb, off, none⟩ else some ⟨gb, off + 1, none⟩) rest.length (cT - 1)) (rest.map (.int .i64))) := hid (by
        rw [List.length_map] at htail
        by_cases h1 : cT = 1
        ·rw [if_pos h1] at htail ⊢; exact htail
        ·rw [if_neg h1] at htail ⊢; simpa [Addr.add] using htail)
       have HPO := hid (HL.out.pop HTL.out (fun gq hgq => by
        by_cases h1 : cT = 1
        ·rw [if_pos h1] at hgq; exact hgq
        ·rw [if_neg h1] at hgq; exact hgq))
       obtain ⟨AD, hAD⟩ : ∃ AD, (if cT = 1 then some (⟨gb, off, none⟩ : Addr) else some ⟨gb, off + 1, none⟩) = AD := ⟨_, rfl⟩
       rw [hAD] at HPO
       obtain ⟨hL8, f8⟩ := HPO.out
       have HL8 := hid hL8
       have HKN := hid hkn
       have HKS := hid (HWW.out.todo (k : Int) (List.mem_cons_self ..))
       have hrl : rest.length ≤ 100000000000 := by have h1 := HBB.out; rw [List.length_cons] at h1; omega
       have hct : rest.length + 1 ≤ cT := hnc
       have HLKA := hid (look_any cls (bs g) code k q HL8.out HF.out (HCO.out) HCL.out rfl HGC.out HWW.out.right HQ8.out (by have h1 := HBB.out; rw [List.length_cons] at h1; omega) HKS.out HKN.out HGVT.out)
       clear hL8 hf0 ha0 han hkn htail HPO c0 c7 c8 c9 HTL hn2 hnc
       go_wp2_with fail
       try rw [hAD]
       refine HLKA.out.mono ?_
       rintro e w9 ⟨ho9, hb9, h9⟩
       have HB9 := hid hb9
       cases hlf : lookF W cls (bs g) code (fmOf Q, rest) (k : Int) with
       | none =>
        rw [hlf] at h9
        subst h9
        have HZN : Hid (Z = none) := hid (by
         rw [HZZ.out (2 * pot W code.length q (fmOf Q) + ((k : Int) :: rest).length + 1) (by omega)]
         show (lookF W cls (bs g) code (fmOf Q, rest) (k : Int)).bind _ = none
         rw [hlf]; rfl)
        clear hlf ho9 hb9 hAD c10 hgy f8
        go_wp2_with fail
        go_ret2
        exact looked_no HZN.out HB9.out
       | some pq =>
        rw [hlf] at h9
        obtain ⟨rfl, v9, Q9, hL9, hfm9, _⟩ := h9
        obtain ⟨P1, P2⟩ := pq
        simp only at hL9 hfm9
        subst hfm9
        obtain ⟨hw9, _, hless9⟩ := look_works HF.out.closed HGC.out HWW.out hlf
        simp only at hless9
        have HL9 := hid hL9
        have HW9 := hid hw9
        have HLS9 := hid hless9
        have HZ9 : Hid (∀ N, 2 * pot W code.length q (fmOf Q9) + P2.length < N → Z = workF W cls (bs g) code N (fmOf Q9, P2)) := hid (fun N hN => by
         have hbig : 2 * pot W code.length q (fmOf Q) + ((k : Int) :: rest).length < N + 1 + (2 * pot W code.length q (fmOf Q) + ((k : Int) :: rest).length) + 1 := by omega
         rw [HZZ.out _ hbig]
         show (lookF W cls (bs g) code (fmOf Q, rest) (k : Int)).bind _ = _
         rw [hlf]
         exact work_enough HF.out.closed HGC.out _ _ hw9 (by simp only; omega) hN)
        clear hlf ho9 hb9 hL9 hw9 hless9 hAD c10 hgy f8
        go_wp2_with fail
        go_roundg (2 * pot W code.length q (fmOf Q9) + P2.length)
        case rel => exact ⟨v9, Q9, P2, rfl, HL9, HW9, HZ9, hid (by have h1 := HBB.out; have h2 := HLS9.out; omega)⟩
        case measure => have h1 := HGH.out; have h2 := HLS9.out; omega
    ·have HZN : Hid (Z = none) := hid (by rw [HZ2.out, if_pos ⟨hgV, hz⟩])
     obtain ⟨z, hzz⟩ : ∃ z, kindF W g = z := ⟨_, rfl⟩
     rw [hzz] at HKG hz
     have HEV : Hid (errVal z = .iface 53 (.int .i64 z)) := hid (by unfold errVal; rw [if_neg hz])
     rw [HEV.out] at HKG
     clear hz hzz hgV HZ2 HZ
     go_wp2_with fail
     refine HKG.out.mono ?_
     rintro e w6 ⟨rfl, hb6⟩
     have HB6 := hid (HL6.out.below.trans (hb6.mono HL6.out.below.size))
     clear hb6
     go_wp2_with fail
     go_ret2
     exact looked_no HZN.out HB6.out
def PlainC (c : CV) : Prop := c.face = false ∧ c.faces = [] ∧ c.fields = [] ∧ ∀ m ∈ c.mets, m.st = true ∧ m.ab = false ∧ m.pr = false ∧ m.hs = []
theorem flat_read {l : List CV} {W : WL} (h : readW l = (0, W)) (hl : ∀ c ∈ l, PlainC c) : Flat W := by
 refine ⟨read_closed h, fun n c hc => ?_⟩
 obtain ⟨hV, _⟩ := read_inv h
 obtain ⟨_, _, k3⟩ := load_get hV
 rcases k3 n c hc with k4 | ⟨k4, _⟩
 ·simp only [firstW, getK] at k4
  split at k4
  ·rw [← Option.some.inj k4]; exact ⟨rfl, rfl, rfl, fun m hm => absurd hm List.not_mem_nil⟩
  ·split at k4
   ·rw [← Option.some.inj k4]; exact ⟨rfl, rfl, rfl, fun m hm => absurd hm List.not_mem_nil⟩
   ·cases k4
 ·exact hl c k4
theorem read_good_mets {l : List CV} {W : WL} (h : readW l = (0, W)) : ∀ c ∈ l, ∀ m ∈ c.mets, ∃ b, metFault m b = 0 := fun c hc m hm => by
 obtain ⟨hV, _⟩ := read_inv h
 obtain ⟨_, g2, _⟩ := load_get hV
 exact met_parts (g2 c hc).2 m hm
def CReadBy (w : World) (l : List CV) (e : Ending) (w' : World) : Prop := Below w.heap.size w w' ∧
 if checkF l = 0 then e = .returned (.tuple #[.map (some w.heap.size), .nilIface]) ∧ Wd w' w.heap.size (readW l).2 else e = .returned (.tuple #[.map none, errVal (checkF l)])
theorem meth_lk {W : WL} {cls : ByteArray} {m : MV} (hab : m.ab = false) : methF W cls m = if (lookedF W cls m).isSome = true then 0 else 7 := by
 unfold methF
 rw [if_neg (by rw [hab]; decide)]
theorem cread_any (va : Value) (l : List CV) (w : World) (hl : Clss w va l) (hf : FormsAt w) (hsm : ∀ c ∈ l, SmallC c) (hn : l.length ≤ 1048576) (hp : ∀ c ∈ l, PlainC c) :
  Calls Tryz.prog 24 #[va] w (CReadBy w l) := by
 have HRD := hid (readwd_any va l w hl hf hsm hn)
 have HL := hid hl
 have HP := hid hp
 have HSM := hid hsm
 obtain ⟨al, cl, rfl⟩ := hl.val
 clear hl hf hsm hp
 go_enter Tryz.func24, Tryz.ntmps24
 go_wp2_with fail
 refine HRD.out.mono ?_
 rintro e w1 ⟨hb1, h1⟩
 have HB1 := hid hb1
 clear hb1
 by_cases h0 : (readW l).1 = 0
 ·rw [if_pos h0] at h1
  obtain ⟨rfl, hwd⟩ := h1
  obtain ⟨W, hW⟩ : ∃ W, (readW l).2 = W := ⟨_, rfl⟩
  have hr : readW l = (0, W) := by rw [← hW, ← h0]
  rw [hW] at hwd
  have HFL := hid (flat_read hr HP.out)
  have HGM := hid (read_good_mets hr)
  have HCF : Hid (checkF l = firstF (fun c => firstF (methF W c.nm) c.mets) l) := hid (by unfold checkF; rw [if_neg (fun e => e h0), hW])
  obtain ⟨b, hb⟩ : ∃ b, w.heap.size = b := ⟨_, rfl⟩
  have HFIN : Hid (∀ e w', Below w.heap.size w w' → Wd w' b W → (if checkF l = 0 then e = .returned (.tuple #[.map (some b), .nilIface]) else e = .returned (.tuple #[.map none, errVal (checkF l)])) → CReadBy w l e w') := hid (fun e w' h1 h2 h3 => by
   refine ⟨h1, ?_⟩
   by_cases hc : checkF l = 0
   ·rw [if_pos hc] at h3 ⊢
    rw [hb, hW]
    exact ⟨h3, h2⟩
   ·rw [if_neg hc] at h3 ⊢; exact h3)
  rw [hb] at hwd ⊢
  have HW1 := hid hwd
  clear h0 hW hr hwd hb HRD
  go_wp2_with fail
  go_loopw [22] (fun v wr => ∃ i : Nat, i ≤ l.length ∧ v = .int .i64 (i : Int) ∧ Hid (Below w1.heap.size w1 wr) ∧ Hid (checkF l = firstF (fun c => firstF (methF W c.nm) c.mets) (l.drop i))) (fun v _ => l.length - (intOf v).toNat)
  case atStart => exact ⟨0, Nat.zero_le _, rfl, hid (Below.refl _ _), HCF⟩
  case round =>
   obtain ⟨i, hi, rfl, HBR, HFI⟩ := hrel
   have hi0 : (0 : Int) ≤ (i : Int) := by omega
   obtain ⟨wb, hwb⟩ : ∃ wb, wb = wr := ⟨_, rfl⟩
   subst hwb
   by_cases hlt : i < l.length
   ·have hi1 : (i : Int) < (l.length : Int) := by omega
    have HLB := hid ((HL.out.below HB1.out).below HBR.out)
    obtain ⟨bb, off, hab, hd0, hd1, hd2, hd3, hd4, hd5⟩ := cls_at HLB.out hlt
    subst hab
    have HMEM := hid (List.getElem_mem hlt)
    have HOK := hid (fun (h : firstF (methF W l[i].nm) l[i].mets = 0) => ff_ok (f := fun c : CV => firstF (methF W c.nm) c.mets) hlt h)
    have HNO := hid (fun (h : ¬ firstF (methF W l[i].nm) l[i].mets = 0) => ff_no (f := fun c : CV => firstF (methF W c.nm) c.mets) hlt h)
    generalize l[i] = c at hd0 hd1 hd2 hd3 hd4 hd5 HMEM HOK HNO
    have HAT := hid (HLB.out.at_ c HMEM.out)
    have HPC := hid (HP.out c HMEM.out)
    have HGC := hid (HGM.out c HMEM.out)
    have hml : c.mets.length ≤ 1048576 := (HSM.out c HMEM.out).mlen
    obtain ⟨a1, c1, hv1⟩ := HAT.out.faces.val
    obtain ⟨a2, c2, hv2⟩ := Sl.val HAT.out.fields
    obtain ⟨a3, c3, hv3⟩ := HAT.out.mets.sl.val
    rw [hv1] at hd2
    rw [hv2] at hd4
    rw [hv3] at hd5
    obtain ⟨n1, hn1⟩ : ∃ n, c.faces.length = n := ⟨_, rfl⟩
    obtain ⟨n2, hn2⟩ : ∃ n, c.fields.length = n := ⟨_, rfl⟩
    obtain ⟨fc, hfc⟩ : ∃ n, c.face = n := ⟨_, rfl⟩
    obtain ⟨cn, hcn⟩ : ∃ n, c.nm = n := ⟨_, rfl⟩
    obtain ⟨cs, hcs⟩ : ∃ n, c.sup = n := ⟨_, rfl⟩
    rw [hn1] at hd2
    rw [hn2] at hd4
    rw [hfc] at hd3
    rw [hcn] at hd0 HOK HNO
    rw [hcs] at hd1
    have HME : Hid (Mets wb (.slice a3 c.mets.length c3) c.mets) := hid (by have := HAT.out.mets; rw [hv3] at this; exact this)
    clear hv1 hv2 hv3 hn1 hn2 hfc hcn hcs
    obtain ⟨b7, hb7⟩ : ∃ b7, wb.heap.size = b7 := ⟨_, rfl⟩
    obtain ⟨A2, hA2⟩ : ∃ A2, wb.alloc (.cells #[.string cn, .string cs, .slice a1 n1 c1, .bool fc, .slice a2 n2 c2, .slice a3 c.mets.length c3] 28) = A2 := ⟨_, rfl⟩
    have HB2 : Hid (Below wb.heap.size wb A2) := hid (hA2 ▸ ext_alloc _ _)
    have HR7 : Hid (A2.heap[b7]? = some (.cells #[.string cn, .string cs, .slice a1 n1 c1, .bool fc, .slice a2 n2 c2, .slice a3 c.mets.length c3] 28 (0, 0))) := hid (by rw [← hA2, ← hb7]; exact heap_alloc_new _ _)
    have z5 : A2.cell? ⟨b7, 5, none⟩ = some (.slice a3 c.mets.length c3) := by rw [cell_of_row _ _ _ _ _ _ HR7.out]; rfl
    go_wp2_with fail
    clear hA2 hb7 z5 hd0 hd1 hd2 hd3 hd4 hd5
    go_loopw [29] (fun v wr => ∃ k : Nat, k ≤ c.mets.length ∧ v = .int .i64 (k : Int) ∧ Hid (Below A2.heap.size A2 wr) ∧ Hid (firstF (methF W cn) c.mets = firstF (methF W cn) (c.mets.drop k))) (fun v _ => c.mets.length - (intOf v).toNat)
    case atStart => exact ⟨0, Nat.zero_le _, rfl, hid (Below.refl _ _), hid rfl⟩
    case round =>
     obtain ⟨k, hk, rfl, HBK, HFK⟩ := hrel
     have hk0 : (0 : Int) ≤ (k : Int) := by omega
     obtain ⟨wc, hwc⟩ : ∃ wc, wc = wr := ⟨_, rfl⟩
     subst hwc
     have HBC := hid (HB2.out.trans (HBK.out.mono HB2.out.size))
     by_cases hltk : k < c.mets.length
     ·have hk1 : (k : Int) < (c.mets.length : Int) := by omega
      obtain ⟨bm, om, ham, e0, e1, e2, e3, e4, e5, e6, e7⟩ := met_at (HME.out.below HBC.out) hltk
      subst ham
      have HMM := hid (List.getElem_mem hltk)
      have HOM := hid (fun (h : methF W cn c.mets[k] = 0) => ff_ok (f := methF W cn) hltk h)
      have HNM := hid (fun (h : ¬ methF W cn c.mets[k] = 0) => ff_no (f := methF W cn) hltk h)
      have HMA := hid ((HME.out.below HBC.out).at_ c.mets[k] HMM.out)
      obtain ⟨p1, p2, p3, p4⟩ := HPC.out.2.2.2 c.mets[k] HMM.out
      obtain ⟨mb, hmb⟩ := HGC.out c.mets[k] HMM.out
      obtain ⟨ts, g, hmo, hl0, hl8, hcf, hlo⟩ := met_good hmb p2 p1
      generalize c.mets[k] = m at e0 e1 e2 e3 e4 e5 e6 e7 HMM HOM HNM HMA p1 p2 p3 p4 hmb hmo hl0 hl8 hcf hlo
      obtain ⟨nm, ty, st, ab, pr, lo, vc, vh, code, hs⟩ := m
      simp only at e0 e1 e2 e3 e4 e5 e6 e7 p1 p2 p3 p4 hmo hl0 hl8 hcf hlo
      subst p1
      subst p2
      subst p3
      subst p4
      obtain ⟨ac, cc, hvc⟩ := HMA.out.code.val
      obtain ⟨ah, ch, hvh⟩ := HMA.out.hs.val
      simp only at hvc hvh
      subst hvc
      rw [show ([] : List hdls.Hd).length = 0 from rfl] at hvh
      subst hvh
      have HCD := hid HMA.out.code
      obtain ⟨nc, hnc⟩ : ∃ n, code.length = n := ⟨_, rfl⟩
      obtain ⟨b9, hb9⟩ : ∃ b9, wc.heap.size = b9 := ⟨_, rfl⟩
      obtain ⟨A3, hA3⟩ : ∃ A3, wc.alloc (.cells #[.string nm, .string ty, .bool true, .bool false, .bool false, .int .i64 lo, .slice ac nc cc, .slice ah 0 ch] 44) = A3 := ⟨_, rfl⟩
      have HB3 : Hid (Below wc.heap.size wc A3) := hid (hA3 ▸ ext_alloc _ _)
      have HR9 : Hid (A3.heap[b9]? = some (.cells #[.string nm, .string ty, .bool true, .bool false, .bool false, .int .i64 lo, .slice ac nc cc, .slice ah 0 ch] 44 (0, 0))) := hid (by rw [← hA3, ← hb9]; exact heap_alloc_new _ _)
      have HBA3 := hid (HBK.out.trans (HB3.out.mono HBK.out.size))
      have HR73 := hid ((HBA3.out.block _ (zh HR7.out).1).trans HR7.out)
      obtain ⟨m0, m1, m2, m3, m4, m5, m6, m7⟩ := row8 HR9.out
      have y0 : A3.cell? ⟨b7, 0, none⟩ = some (.string cn) := by rw [cell_of_row _ _ _ _ _ _ HR73.out]; rfl
      have HWA := hid ((HW1.out.below HBR.out).below (HBC.out.trans (HB3.out.mono HBC.out.size)))
      have HLK := hid (looked_any W b cn nm ty false false lo ac ah nc cc ch code ts g A3 HWA.out HFL.out hmo hl0 hl8 hlo hcf (by have h9 : flows.Code A3 (.slice ac code.length cc) code := HCD.out.below HB3.out; rw [hnc] at h9; exact h9))
      rw [hnc] at e6
      have HMF := hid (meth_lk (W := W) (cls := cn) (m := ⟨nm, ty, true, false, false, lo, .slice ac nc cc, .slice ah 0 ch, code, []⟩) rfl)
      rw [hnc] at HOM HNM
      clear hmo hl0 hl8 hcf hlo hmb HMA hnc HMM
      cases hlk : lookedF W cn ⟨nm, ty, true, false, false, lo, .slice ac nc cc, .slice ah 0 ch, code, []⟩ with
      | none =>
       have HZE : Hid (checkF l = 7) := hid (by
        have h1 := HMF.out
        rw [hlk] at h1
        have h7 : ¬ methF W cn ⟨nm, ty, true, false, false, lo, .slice ac nc cc, .slice ah 0 ch, code, []⟩ = 0 := by rw [h1]; decide
        have h2 := HFK.out.trans (HNM.out h7)
        have h3 : ¬ firstF (methF W cn) c.mets = 0 := by rw [h2]; exact h7
        rw [HFI.out, HNO.out h3, h2, h1]; rfl)
       rw [hlk] at HLK
       clear hlk
       go_wp2_with fail
       refine HLK.out.mono ?_
       rintro e w5 ⟨hb5, rfl⟩
       have HB5 := hid (HB1.out.trans ((HBR.out.trans ((HBC.out.trans ((HB3.out.trans (hb5.mono HB3.out.size)).mono HBC.out.size)).mono HBR.out.size)).mono HB1.out.size))
       have HW5 := hid (HWA.out.below hb5)
       clear hb5 hA3 hb9 m0 m1 m2 m3 m4 m5 m6 m7 y0 e0 e1 e2 e3 e4 e5 e6 e7
       go_wp2_with fail
       go_ret2
       exact HFIN.out _ _ HB5.out HW5.out (by rw [if_neg (by rw [HZE.out]; decide), HZE.out]; rfl)
      | some Fm =>
       have HFK2 : Hid (firstF (methF W cn) c.mets = firstF (methF W cn) (c.mets.drop (k + 1))) := hid (by
        have h1 := HMF.out
        rw [hlk] at h1
        exact HFK.out.trans (HOM.out h1))
       rw [hlk] at HLK
       clear hlk
       go_wp2_with fail
       refine HLK.out.mono ?_
       rintro e w5 ⟨hb5, M5, rfl⟩
       have HB5 := hid (HBA3.out.trans (hb5.mono HBA3.out.size))
       clear hb5 hA3 hb9 m0 m1 m2 m3 m4 m5 m6 m7 y0 e0 e1 e2 e3 e4 e5 e6 e7
       go_wp2_with fail
       go_roundw
       case rel => exact ⟨k + 1, by omega, by simp, HB5, HFK2⟩
       case measure => simp [intOf]; omega
     ·have HFZ : Hid (checkF l = firstF (fun c => firstF (methF W c.nm) c.mets) (l.drop (i + 1))) := hid (HFI.out.trans (HOK.out (HFK.out.trans (ff_end hltk))))
      obtain rfl : k = c.mets.length := by omega
      have HBN := hid (HBR.out.trans (HBC.out.mono HBR.out.size))
      clear hltk hk0
      go_wp2_with fail
      go_roundw
      case rel => exact ⟨i + 1, by omega, by simp, HBN, HFZ⟩
      case measure => simp [intOf]; omega
   ·have HZE : Hid (checkF l = 0) := hid (by rw [HFI.out, ff_end hlt])
    obtain rfl : i = l.length := by omega
    clear hlt hi0 hi
    go_wp2_with fail
    go_ret2
    exact HFIN.out _ _ (HB1.out.trans (HBR.out.mono HB1.out.size)) (HW1.out.below HBR.out) (by rw [if_pos HZE.out]; rfl)
 ·rw [if_neg h0] at h1
  subst h1
  have HZ0 : Hid (checkF l = (readW l).1) := hid (by unfold checkF; rw [if_pos h0])
  obtain ⟨z, hz⟩ : ∃ z, (readW l).1 = z := ⟨_, rfl⟩
  rw [hz] at h0 HZ0 ⊢
  have HEV : Hid (errVal z = .iface 53 (.int .i64 z)) := hid (by unfold errVal; rw [if_neg h0])
  have HZE : Hid (∀ w', Below w.heap.size w w' → CReadBy w l (.returned (.tuple #[.map none, .iface 53 (.int .i64 z)])) w') := hid (fun w' hb => ⟨hb, by rw [HZ0.out, if_neg h0, HEV.out]⟩)
  rw [HEV.out]
  clear h0 hz HRD
  go_wp2_with fail
  go_ret2
  exact HZE.out _ HB1.out
end Go.Proofs.YtloonnfelgokmaaGreatDoor.worlds
