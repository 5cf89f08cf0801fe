/- find.own: a class's own method. Condition: the list is not long. -/
import Derived.Test.YtloonnfelgokmaaGreatDoorZJnZ
import Derived.Test.YtloonnfelgokmaaGreatDoorZVrfZ
import Derived.Test.YtloonnfelgokmaaGreatDoorZRet
import Derived.Deep.WholeRow
import Derived.Test.YtloonnfelgokmaaGreatDoorZGrowZ
import Derived.Test.YtloonnfelgokmaaGreatDoorZTxtZ
import Derived.Test.YtloonnfelgokmaaGreatDoorZWldY
set_option maxRecDepth 100000
set_option maxHeartbeats 16000000
set_option linter.unusedSimpArgs false
set_option linter.unusedVariables false
namespace Go.Proofs.YtloonnfelgokmaaGreatDoor.worlds
open Go.RowKit lib maps classes errs descs names grow
def zeroM : MV := { nm := noB, ty := noB, st := false, ab := false, pr := false, lo := 0, vc := .slice none 0 0, vh := .slice none 0 0, code := [], hs := [] }
theorem results_cell_mid {P : Program} {fn : Func} {s p q : Tmp} {ty : TypeId} (h : fn.results = #[.tmp s, .cell p ty, .tmp q]) (tmps : Array Value) (w : World) (g : Nat) (cs : Array Value) (t : TypeId) (fr : Nat × Nat) (d : TypeDesc)
  (hp : tmps.getD p undef = .pointer (some ⟨g, 0, none⟩)) (hg : w.heap[g]? = some (.cells cs t fr)) (hu : P.underlying ty = some d) (hd : (match d with | .struct _ | .array _ _ => true | _ => false) = true) (hi : (P.info? ty).map (·.size) = some cs.size) :
  (results fn tmps).run P w = .ok (.tuple #[tmps.getD s undef, .agg cs, tmps.getD q undef]) w := by
 have hp' : tmps[p]?.getD undef = .pointer (some ⟨g, 0, none⟩) := by simpa using hp
 simp [results, h, hp', asAddr, run_loadVar_row w g t ty cs fr d hg hu hd hi]
theorem mfind_drop {p : MV → Bool} {L : List MV} {k : Nat} (hk : k < L.length) : (L.drop k).find? p = if p L[k] = true then some L[k] else (L.drop (k + 1)).find? p := by
 rw [List.drop_eq_getElem_cons hk, List.find?_cons]
 cases p L[k] <;> rfl
def ownM (c : CV) (nm ty : ByteArray) : Option MV := c.mets.find? fun m => decide (m.nm = nm ∧ m.ty = ty)
theorem fown_any (nm0 sup : ByteArray) (a1 a2 a3 : Option Addr) (n1 c1 n2 c2 c3 : Nat) (face : Bool) (l : List MV) (nm ty : ByteArray) (w : World) (hl : Mets w (.slice a3 l.length c3) l) (hn : l.length ≤ 1000000) :
  Calls Tryz.prog 210 #[.agg #[.string nm0, .string sup, .slice a1 n1 c1, .bool face, .slice a2 n2 c2, .slice a3 l.length c3], .string nm, .string ty] w fun e w' =>
   e = .returned (.tuple #[.agg (((l.find? fun m => decide (m.nm = nm ∧ m.ty = ty)).getD zeroM).cells.toArray), .bool (l.find? fun m => decide (m.nm = nm ∧ m.ty = ty)).isSome]) ∧ Below w.heap.size w w' := by
 obtain ⟨b3, hb3⟩ : ∃ b3, w.heap.size = b3 := ⟨_, rfl⟩
 obtain ⟨W1, hW1⟩ : ∃ W1, w.alloc (.cells #[.string nm0, .string sup, .slice a1 n1 c1, .bool face, .slice a2 n2 c2, .slice a3 l.length c3] 28) = W1 := ⟨_, rfl⟩
 obtain ⟨b6, hb6⟩ : ∃ b6, W1.heap.size = b6 := ⟨_, rfl⟩
 obtain ⟨W2, hW2⟩ : ∃ W2, W1.alloc (.cells #[.string { data := #[] }, .string { data := #[] }, .bool false, .bool false, .bool false, .int .i64 0, .slice none 0 0, .slice none 0 0] 44) = W2 := ⟨_, rfl⟩
 have HB1 : Hid (Below w.heap.size w W1) := hid (hW1 ▸ ext_alloc _ _)
 have HB12 : Hid (Below W1.heap.size W1 W2) := hid (hW2 ▸ ext_alloc _ _)
 have HB2 := hid (HB1.out.trans (HB12.out.mono HB1.out.size))
 have hr3 : W1.heap[b3]? = some (.cells #[.string nm0, .string sup, .slice a1 n1 c1, .bool face, .slice a2 n2 c2, .slice a3 l.length c3] 28 (0, 0)) := by rw [← hW1, ← hb3]; exact heap_alloc_new _ _
 have hr32 := (HB12.out.block _ (zh hr3).1).trans hr3
 have HR6 : Hid (W2.heap[b6]? = some (.cells #[.string { data := #[] }, .string { data := #[] }, .bool false, .bool false, .bool false, .int .i64 0, .slice none 0 0, .slice none 0 0] 44 (0, 0))) := hid (by rw [← hW2, ← hb6]; exact heap_alloc_new _ _)
 have x5 : W2.cell? ⟨b3, 5, none⟩ = some (.slice a3 l.length c3) := by rw [cell_of_row _ _ _ _ _ _ hr32]; rfl
 have HLE : Hid (w.heap.size ≤ b6) := hid (by have := HB1.out.size; omega)
 have HL := hid hl
 obtain ⟨FD, hFD⟩ : ∃ FD : Option MV, (l.find? fun m => decide (m.nm = nm ∧ m.ty = ty)) = FD := ⟨_, rfl⟩
 have HFD := hid hFD
 rw [hFD]
 clear hr3 hr32 hl hFD
 go_enter Tryz.func210, Tryz.ntmps210
 go_wp2_with fail
 clear x5
 go_loopw [13] (fun v wr => ∃ k : Nat, k ≤ l.length ∧ v = .int .i64 (k : Int) ∧ Hid (Below W2.heap.size W2 wr) ∧ Hid (FD = (l.drop k).find? fun m => decide (m.nm = nm ∧ m.ty = ty))) (fun v _ => l.length - (intOf v).toNat)
 case atStart => exact ⟨0, Nat.zero_le _, rfl, hid (Below.refl _ _), hid HFD.out.symm⟩
 case round =>
  obtain ⟨k, hk, rfl, HBR, HF⟩ := hrel
  obtain ⟨wb, hwb⟩ : ∃ wb, wb = wr := ⟨_, rfl⟩
  subst hwb
  have HBW := hid (HB2.out.trans (HBR.out.mono HB2.out.size))
  have HR6b := hid ((HBR.out.block _ (zh HR6.out).1).trans HR6.out)
  have hk0 : (0 : Int) ≤ (k : Int) := by omega
  by_cases hlt : k < l.length
  ·have hk1 : (k : Int) < (l.length : Int) := by omega
   obtain ⟨bb, off, hab, d0, d1, d2, d3, d4, d5, d6, d7⟩ := met_at (HL.out.below HBW.out) hlt
   subst hab
   have HFX := hid (HF.out.trans (mfind_drop (p := fun m => decide (m.nm = nm ∧ m.ty = ty)) hlt))
   obtain ⟨ac, cc, hvc⟩ := (HL.out.at_ _ (List.getElem_mem hlt)).code.val
   obtain ⟨ah, ch, hvh⟩ := (HL.out.at_ _ (List.getElem_mem hlt)).hs.val
   generalize l[k] = m at d0 d1 d2 d3 d4 d5 d6 d7 HFX hvc hvh
   obtain ⟨mn, mt, ms, ma, mp, ml, mc, mh, code, hs⟩ := m
   simp only at d0 d1 d2 d3 d4 d5 d6 d7 hvc hvh
   subst hvc hvh
   obtain ⟨B9, hB9⟩ : ∃ B9, wb.heap.size = B9 := ⟨_, rfl⟩
   obtain ⟨W3, hW3⟩ : ∃ W3, wb.alloc (.cells #[.string mn, .string mt, .bool ms, .bool ma, .bool mp, .int .i64 ml, .slice ac code.length cc, .slice ah hs.length ch] 44) = W3 := ⟨_, rfl⟩
   have HB3 : Hid (Below wb.heap.size wb W3) := hid (hW3 ▸ ext_alloc _ _)
   have HR9 : Hid (W3.heap[B9]? = some (.cells #[.string mn, .string mt, .bool ms, .bool ma, .bool mp, .int .i64 ml, .slice ac code.length cc, .slice ah hs.length ch] 44 (0, 0))) := hid (by rw [← hW3, ← hB9]; exact heap_alloc_new _ _)
   have HBR3 := hid (HBR.out.trans (HB3.out.mono HBR.out.size))
   have HBW3 := hid (HBW.out.trans (HB3.out.mono HBW.out.size))
   have HR63 := hid ((HB3.out.block _ (zh HR6b.out).1).trans HR6b.out)
   have y0 : W3.cell? ⟨B9, 0, none⟩ = some (.string mn) := by rw [cell_of_row _ _ _ _ _ _ HR9.out]; rfl
   have y1 : W3.cell? ⟨B9, 1, none⟩ = some (.string mt) := by rw [cell_of_row _ _ _ _ _ _ HR9.out]; rfl
   by_cases h1 : mn = nm
   ·have e1 := str_eqb h1
    have e1' : mn.toList = nm.toList := by rw [h1]
    by_cases h2 : mt = ty
    ·have e2 := str_eqb h2
     have e2' : mt.toList = ty.toList := by rw [h2]
     have HFY : Hid (FD = some ⟨mn, mt, ms, ma, mp, ml, .slice ac code.length cc, .slice ah hs.length ch, code, hs⟩) := hid (by rw [HFX.out, if_pos (by rw [decide_eq_true_eq]; exact ⟨h1, h2⟩)])
     clear h1 h2
     go_wp2_with (first
      | refine wpList_load_row rfl 44 (.tmp 9) rfl B9 rfl _ _ _ _ HR9.out Tryz.underlying44 rfl (by kernel_rfl) ?_
      | refine wpList_store_row rfl 44 (.tmp 6) (.tmp 27) rfl b6 _ rfl rfl 44 _ HR63.out (by kernel_rfl) rfl (by simp [Value.oneCell']) ?_)
     refine bodyPost_ret (results_cell_at rfl _ _ b6 _ _ _ _ rfl (setRow_heap _ _ _ _ _ _ HR63.out) Tryz.underlying44 rfl (by kernel_rfl)) rfl ?_
     exact ⟨by rw [HFY.out]; rfl, by (first | rw [← hb3] | skip); exact below_setRow HBW3.out HLE.out _⟩
    ·have e2 := str_neb h2
     have e2' : ¬ mt.toList = ty.toList := fun h => h2 (by
      rw [ByteArray.toList_eq, ByteArray.toList_eq] at h
      exact ByteArray.ext (Array.toList_inj.1 h))
     have HFY := hid (HFX.out.trans (if_neg (by rw [decide_eq_true_eq]; exact fun h => h2 h.2)))
     clear h1 h2
     go_wp2_with fail
     go_roundw
     case rel => exact ⟨k + 1, by omega, by simp, HBR3, HFY⟩
     case measure => simp [intOf]; omega
   ·have e1 := str_neb h1
    have e1' : ¬ mn.toList = nm.toList := fun h => h1 (by
     rw [ByteArray.toList_eq, ByteArray.toList_eq] at h
     exact ByteArray.ext (Array.toList_inj.1 h))
    have HFY := hid (HFX.out.trans (if_neg (by rw [decide_eq_true_eq]; exact fun h => h1 h.1)))
    clear h1
    go_wp2_with fail
    go_roundw
    case rel => exact ⟨k + 1, by omega, by simp, HBR3, HFY⟩
    case measure => simp [intOf]; omega
  ·have HFY : Hid (FD = none) := hid (by rw [HF.out, List.drop_eq_nil_of_le (by omega)]; rfl)
   obtain rfl : k = l.length := by omega
   clear hlt
   go_wp2_with (first
    | refine wpList_store_row rfl 44 (.tmp 6) (.tmp 29) rfl b6 _ rfl rfl 44 _ HR6b.out (by kernel_rfl) rfl (by simp [Value.oneCell']) ?_)
   refine bodyPost_ret (results_cell_at rfl _ _ b6 _ _ _ _ rfl (setRow_heap _ _ _ _ _ _ HR6b.out) Tryz.underlying44 rfl (by kernel_rfl)) rfl ?_
   exact ⟨by rw [HFY.out]; rfl, by (first | rw [← hb3] | skip); exact below_setRow HBW.out HLE.out _⟩
theorem fsome_drop {f : ByteArray → Option (ByteArray × MV)} {L : List ByteArray} {k : Nat} (hk : k < L.length) : (L.drop k).findSome? f = match f L[k] with | some x => some x | none => (L.drop (k + 1)).findSome? f := by
 rw [List.drop_eq_getElem_cons hk, List.findSome?_cons]
 cases f L[k] <;> rfl
theorem flat_face {W : WL} (h : Flat W) (x : ByteArray) : (cAt W x).face = false := by
 unfold cAt
 cases hg : getK W x with
 | none => rfl
 | some c => exact (h.plain x c hg).1
theorem flat_fields {W : WL} (h : Flat W) (x : ByteArray) : (cAt W x).fields = [] := by
 unfold cAt
 cases hg : getK W x with
 | none => rfl
 | some c => exact (h.plain x c hg).2.2.1
def foundV (o : Option (ByteArray × MV)) : Value := match o with
 | some (c, m) => .tuple #[.string c, .agg m.cells.toArray, .bool true]
 | none => .tuple #[.string { data := #[] }, .agg zeroM.cells.toArray, .bool false]
theorem own_shape {w : World} {c : CV} (hc : Mets w c.vm c.mets) (nm ty : ByteArray) : ∃ (mn mt : ByteArray) (ms ma mp : Bool) (ml : Int) (ac : Option Addr) (nc cc : Nat) (ah : Option Addr) (nh ch : Nat), ((ownM c nm ty).getD zeroM).cells.toArray = #[.string mn, .string mt, .bool ms, .bool ma, .bool mp, .int .i64 ml, .slice ac nc cc, .slice ah nh ch] := by
 cases hq : ownM c nm ty with
 | none => exact ⟨noB, noB, false, false, false, 0, none, 0, 0, none, 0, 0, rfl⟩
 | some m =>
  have hm := hc.at_ m (List.mem_of_find?_eq_some hq)
  obtain ⟨ac, cc, h1⟩ := hm.code.val
  obtain ⟨ah, ch, h2⟩ := hm.hs.val
  refine ⟨m.nm, m.ty, m.st, m.ab, m.pr, m.lo, ac, m.code.length, cc, ah, m.hs.length, ch, ?_⟩
  show m.cells.toArray = _
  unfold MV.cells
  rw [h1, h2]
theorem wown_any {W : WL} {b : Nat} (x nm ty : ByteArray) {w : World} (hW : Wd w b W) : ∃ q r a1 n1 d1 f a2 n2 d2 a3 n3 d3 mn mt ms ma mp ml ac nc cc ah nh ch is, (cAt W x).cells.toArray = #[.string q, .string r, .slice a1 n1 d1, .bool f, .slice a2 n2 d2, .slice a3 n3 d3] ∧ f = (cAt W x).face ∧
  (((ownM (cAt W x) nm ty).getD zeroM).cells.toArray = #[.string mn, .string mt, .bool ms, .bool ma, .bool mp, .int .i64 ml, .slice ac nc cc, .slice ah nh ch]) ∧ (ownM (cAt W x) nm ty).isSome = is ∧
  ∀ u, Below w.heap.size w u → Calls Tryz.prog 210 #[.agg #[.string q, .string r, .slice a1 n1 d1, .bool f, .slice a2 n2 d2, .slice a3 n3 d3], .string nm, .string ty] u fun e w' =>
   e = .returned (.tuple #[.agg #[.string mn, .string mt, .bool ms, .bool ma, .bool mp, .int .i64 ml, .slice ac nc cc, .slice ah nh ch], .bool is]) ∧ Below u.heap.size u w' := by
 obtain ⟨q, r, a1, d1, a2, d2, a3, d3, hsh, _, hvm⟩ := cls_shape hW.at_ x
 have hm := (hW.at_.at_ x).mets
 obtain ⟨mn, mt, ms, ma, mp, ml, ac, nc, cc, ah, nh, ch, hcells⟩ := own_shape hm nm ty
 refine ⟨q, r, a1, (cAt W x).faces.length, d1, (cAt W x).face, a2, (cAt W x).fields.length, d2, a3, (cAt W x).mets.length, d3, mn, mt, ms, ma, mp, ml, ac, nc, cc, ah, nh, ch, _, hsh, rfl, hcells, rfl, fun u hu => ?_⟩
 rw [hvm] at hm
 have hl : (cAt W x).mets.length ≤ 1000000 := by
  unfold cAt
  cases hg : getK W x with
  | none => simp [zeroC]
  | some c => have := hW.good.mets x c hg; simp only [Option.getD_some]; omega
 refine (fown_any q r a1 a2 a3 _ d1 _ d2 d3 _ (cAt W x).mets nm ty u (hm.below hu) hl).mono fun e w' h => ?_
 rw [← hcells]
 exact h
theorem fmethod_any (W : WL) (b : Nat) (n nm ty : ByteArray) (w : World) (hW : Wd w b W) (hF : Flat W) :
  Calls Tryz.prog 168 #[.map (some b), .string n, .string nm, .string ty] w fun e w' => e = .returned (foundV (findM W n nm ty)) ∧ Below w.heap.size w w' := by
 obtain ⟨b9, hb9⟩ : ∃ b9, w.heap.size = b9 := ⟨_, rfl⟩
 obtain ⟨W1, hW1⟩ : ∃ W1, w.alloc (.cells #[.string { data := #[] }, .string { data := #[] }, .bool false, .bool false, .bool false, .int .i64 0, .slice none 0 0, .slice none 0 0] 44) = W1 := ⟨_, rfl⟩
 have HB1 : Hid (Below w.heap.size w W1) := hid (hW1 ▸ ext_alloc _ _)
 have HR9 : Hid (W1.heap[b9]? = some (.cells #[.string { data := #[] }, .string { data := #[] }, .bool false, .bool false, .bool false, .int .i64 0, .slice none 0 0, .slice none 0 0] 44 (0, 0))) := hid (by rw [← hW1, ← hb9]; exact heap_alloc_new _ _)
 have HW := hid hW
 have HFL := hid hF
 obtain ⟨hln, hlnl⟩ := hW.line n
 have HLN := hid (fun (u : World) (hu : Below w.heap.size w u) => line_any W b n (lineOf W n) u (hW.at_.below hu) hln (by omega))
 obtain ⟨Z, hZ⟩ : ∃ Z, findM W n nm ty = Z := ⟨_, rfl⟩
 have HZ : Hid (((lineOf W n).findSome? fun c => (ownM (cAt W c) nm ty).map fun m => (c, m)) = Z) := hid hZ
 rw [hZ]
 obtain ⟨LN, hLN⟩ : ∃ LN, lineOf W n = LN := ⟨_, rfl⟩
 rw [hLN] at HZ HLN hlnl
 have HNL := hid hlnl
 clear hW hF hln hLN hZ hlnl
 go_enter Tryz.func168, Tryz.ntmps168
 go_wp2_with fail
 refine (HLN.out W1 HB1.out).mono ?_
 rintro e w2 ⟨v2, rfl, ho2⟩
 have HB12 := hid ho2.below
 have HS2 := hid ho2.sl
 obtain ⟨p2, q2, rfl⟩ := ho2.sl.val
 clear ho2
 go_wp2_with fail
 have HB9E := hid hb9
 clear hW1 hb9
 go_loopw [25] (fun v wr => ∃ k : Nat, k ≤ LN.length ∧ v = .int .i64 (k : Int) ∧ Hid (Below w2.heap.size w2 wr) ∧ Hid (Z = (LN.drop k).findSome? fun c => (ownM (cAt W c) nm ty).map fun m => (c, m))) (fun v _ => LN.length - (intOf v).toNat)
 case atStart => exact ⟨0, Nat.zero_le _, rfl, hid (Below.refl _ _), hid HZ.out.symm⟩
 case round =>
  obtain ⟨k, hk, rfl, HBR, HF⟩ := hrel
  obtain ⟨wb, hwb⟩ : ∃ wb, wb = wr := ⟨_, rfl⟩
  subst hwb
  have HB1w := hid (HB12.out.trans (HBR.out.mono HB12.out.size))
  have HBW := hid (HB1.out.trans (HB1w.out.mono HB1.out.size))
  have hk0 : (0 : Int) ≤ (k : Int) := by omega
  have hNL := HNL.out
  by_cases hlt : k < LN.length
  ·have hk1 : (k : Int) < (LN.length : Int) := by omega
   obtain ⟨bb, off, hab, hd0⟩ := text_at (HS2.out.below HBR.out) hlt
   subst hab
   have HFX := hid (HF.out.trans (fsome_drop (f := fun c => (ownM (cAt W c) nm ty).map fun m => (c, m)) hlt))
   generalize LN[k] = x at hd0 HFX
   obtain ⟨q, r, a1, n1, d1, f, a2, n2, d2, a3, n3, d3, mn, mt, ms, ma, mp, ml, ac, nc, cc, ah, nh, ch, is, hsh, hff, hmc, his, hown⟩ := wown_any x nm ty (HW.out.below HBW.out)
   have hlk := world_look (HW.out.at_.below HBW.out) x
   rw [hsh] at hlk
   have HOWN := hid (hown wb (Below.refl _ _))
   have HMC := hid hmc; have HIS := hid his
   clear hsh hmc his hown hff
   go_wp2_with fail
   refine HOWN.out.mono ?_
   rintro e w3 ⟨rfl, hb3⟩
   obtain ⟨B13, hB13⟩ : ∃ B13, w3.heap.size = B13 := ⟨_, rfl⟩
   obtain ⟨W4, hW4⟩ : ∃ W4, w3.alloc (.cells #[.string mn, .string mt, .bool ms, .bool ma, .bool mp, .int .i64 ml, .slice ac nc cc, .slice ah nh ch] 44) = W4 := ⟨_, rfl⟩
   have HB34 : Hid (Below w3.heap.size w3 W4) := hid (hW4 ▸ ext_alloc _ _)
   have HR13 : Hid (W4.heap[B13]? = some (.cells #[.string mn, .string mt, .bool ms, .bool ma, .bool mp, .int .i64 ml, .slice ac nc cc, .slice ah nh ch] 44 (0, 0))) := hid (by rw [← hW4, ← hB13]; exact heap_alloc_new _ _)
   have HBb4 := hid (hb3.trans (HB34.out.mono hb3.size))
   have HBR4 := hid (HBR.out.trans (HBb4.out.mono HBR.out.size))
   have HB14 := hid (HB12.out.trans (HBR4.out.mono HB12.out.size))
   have HBW4 := hid (HB1.out.trans (HB14.out.mono HB1.out.size))
   have HR94 := hid ((HB14.out.block _ (zh HR9.out).1).trans HR9.out)
   have HLT : Hid (b9 < B13) := hid (by
    have h1 := (zh HR9.out).1
    have h2 := (HB1w.out.trans (hb3.mono HB1w.out.size)).size
    omega)
   clear hb3 hlk
   cases is with
   | true =>
    have HZY : Hid (∃ m, Z = some (x, m) ∧ m.cells.toArray = #[.string mn, .string mt, .bool ms, .bool ma, .bool mp, .int .i64 ml, .slice ac nc cc, .slice ah nh ch]) := hid (by
     have h1 := HIS.out
     have h2 := HMC.out
     cases hq : ownM (cAt W x) nm ty with
     | none => rw [hq] at h1; cases h1
     | some m =>
      rw [hq] at h2
      refine ⟨m, ?_, h2⟩
      rw [HFX.out, hq]; rfl)
    go_wp2_with fail
    obtain ⟨WD, hwd⟩ : ∃ WD, W4.drew = WD := ⟨_, rfl⟩
    have HR13d : Hid (WD.heap[B13]? = some (.cells #[.string mn, .string mt, .bool ms, .bool ma, .bool mp, .int .i64 ml, .slice ac nc cc, .slice ah nh ch] 44 (0, 0))) := hid (by rw [← hwd]; exact HR13.out)
    have HR9d : Hid (WD.heap[b9]? = some (.cells #[.string { data := #[] }, .string { data := #[] }, .bool false, .bool false, .bool false, .int .i64 0, .slice none 0 0, .slice none 0 0] 44 (0, 0))) := hid (by rw [← hwd]; exact HR94.out)
    have HBD : Hid (Below w.heap.size w WD) := hid (by rw [← hwd]; exact HBW4.out.trans ((Below.refl _ _).drew.mono HBW4.out.size))
    have HRK : Hid ((WD.setRow b9 #[.string mn, .string mt, .bool ms, .bool ma, .bool mp, .int .i64 ml, .slice ac nc cc, .slice ah nh ch]).heap[B13]? = some (.cells #[.string mn, .string mt, .bool ms, .bool ma, .bool mp, .int .i64 ml, .slice ac nc cc, .slice ah nh ch] 44 (0, 0))) := hid (by rw [heap_setRow_other _ _ _ _ (by have := HLT.out; omega)]; exact HR13d.out)
    refine wp_region_c (fun u => u.heap[B13]? = some (.cells #[.string mn, .string mt, .bool ms, .bool ma, .bool mp, .int .i64 ml, .slice ac nc cc, .slice ah nh ch] 44 (0, 0))) (by kernel_rfl) ?_
    show wpAnyC _ _ _ _ _ _ _ _ W4.drew
    rw [hwd]
    refine zct 0 _ _ rfl HR13d.out (fun u hu => by go_simp; rfl) ?_
    simp only [zg1, zg2, zg3, Act.put, zg4, zg5, zg6]
    refine zct 1 _ (.agg #[.string mn, .string mt, .bool ms, .bool ma, .bool mp, .int .i64 ml, .slice ac nc cc, .slice ah nh ch]) rfl HR13d.out (fun u hu => by have hl := run_loadVar_row (P := Tryz.prog) u B13 44 44 #[.string mn, .string mt, .bool ms, .bool ma, .bool mp, .int .i64 ml, .slice ac nc cc, .slice ah nh ch] (0, 0) _ hu Tryz.underlying44 rfl (by kernel_rfl); simp only [List.getElem_toArray, List.getElem_cons_zero, List.getElem_cons_succ]; unfold execOp; simp only [Act.eval, Instr.loadAt, Instr.sureAddr, Sem.run_bind, Sem.run_pure]; change ((Sem.run Tryz.prog (loadVar 44 ⟨B13, 0, none⟩) u).andThen fun a w' => Result.ok (Next.value a) w') = _; rw [hl]; rfl) ?_
    simp only [zg1, zg2, zg3, Act.put, zg4, zg5, zg6]
    refine zct 2 _ _ rfl HR13d.out (fun u hu => by go_simp; rfl) ?_
    simp only [zg1, zg2, zg3, Act.put, zg4, zg5, zg6]
    refine c_only 3 _ rfl (by kernel_rfl) ?_
    rw [if_pos (by rfl)]
    refine wp_store_row 44 (.tmp 9) (.tmp 40) rfl b9 #[.string mn, .string mt, .bool ms, .bool ma, .bool mp, .int .i64 ml, .slice ac nc cc, .slice ah nh ch] rfl rfl 44 _ HR9d.out (by kernel_rfl) rfl (by simp [Value.oneCell']) ?_
    refine ⟨HRK.out, ?_⟩
    try simp only [zg1, zg2, zg3, Act.put, zg4, zg5, zg6]
    refine zct 4 _ _ rfl HRK.out (fun u hu => by go_simp; rfl) ?_
    try simp only [zg1, zg2, zg3, Act.put, zg4, zg5, zg6]
    refine c_end (by kernel_rfl) ?_
    go_wp2_with fail
    refine bodyPost_ret (results_cell_mid rfl _ _ b9 _ _ _ _ rfl (setRow_heap _ _ _ _ _ _ HR9d.out) Tryz.underlying44 rfl (by kernel_rfl)) rfl ?_
    obtain ⟨m, hz, hm⟩ := HZY.out
    refine ⟨by rw [hz]; unfold foundV; simp only; rw [hm]; rfl, below_setRow HBD.out (by have := HB9E.out; omega) _⟩
   | false =>
    have HFY : Hid (Z = (LN.drop (k + 1)).findSome? fun c => (ownM (cAt W c) nm ty).map fun m => (c, m)) := hid (by
     have h1 := HIS.out
     cases hq : ownM (cAt W x) nm ty with
     | none => rw [HFX.out, hq]; rfl
     | some m => rw [hq] at h1; cases h1)
    go_wp2_with fail
    go_roundw
    case rel => exact ⟨k + 1, by omega, by simp, HBR4, HFY⟩
    case measure => simp [intOf]; omega
  ·have HZN : Hid (Z = none) := hid (by rw [HF.out, List.drop_eq_nil_of_le (by omega)]; rfl)
   obtain rfl : k = LN.length := by omega
   have HB1w := hid (HB12.out.trans (HBR.out.mono HB12.out.size))
   have HBW := hid (HB1.out.trans (HB1w.out.mono HB1.out.size))
   clear hlt
   obtain ⟨bz, hbz⟩ : ∃ bz, wb.heap.size = bz := ⟨_, rfl⟩
   obtain ⟨W5, hW5⟩ : ∃ W5, wb.alloc (.cells #[.bool false, .bool true] 4) = W5 := ⟨_, rfl⟩
   have HBb5 : Hid (Below wb.heap.size wb W5) := hid (hW5 ▸ ext_alloc _ _)
   have HB15 := hid (HB1w.out.trans (HBb5.out.mono HB1w.out.size))
   have HBW5 := hid (HBW.out.trans (HBb5.out.mono HBW.out.size))
   have HRZ : Hid (W5.heap[bz]? = some (.cells #[.bool false, .bool true] 4 (0, 0))) := hid (by rw [← hW5, ← hbz]; exact heap_alloc_new _ _)
   have HEV := hid (fun (u : World) (hu : Below w.heap.size w u) => every_any W b n u (HW.out.at_.below hu) (fun x => HW.out.good.faces' x) (by have := HW.out.most; omega))
   have HEL : Hid ((sortB (everyU W n)).length ≤ 20000000) := hid (by rw [sortB_len]; have := rounds_most W n (most W); have := HW.out.most; unfold everyU; omega)
   obtain ⟨EV, hEV⟩ : ∃ EV, sortB (everyU W n) = EV := ⟨_, rfl⟩
   have hlen := sortB_len (everyU W n)
   simp only [← hlen] at HEV
   rw [hEV] at HEV HEL
   clear hlen
   clear hEV
   go_wp2_with fail
   go_loopw [44] (fun v wr => ∃ j : Nat, j ≤ 2 ∧ v = .int .i64 (j : Int) ∧ Hid (Below W5.heap.size W5 wr)) (fun v _ => 2 - (intOf v).toNat)
   case atStart => exact ⟨0, by omega, rfl, hid (Below.refl _ _)⟩
   case round =>
    obtain ⟨j, hj, rfl, HBR2⟩ := hrel
    obtain ⟨wc, hwc⟩ : ∃ wc, wc = wr := ⟨_, rfl⟩
    subst hwc
    have HBWc := hid (HBW5.out.trans (HBR2.out.mono HBW5.out.size))
    have HB1c := hid (HB15.out.trans (HBR2.out.mono HB15.out.size))
    have hj0 : (0 : Int) ≤ (j : Int) := by omega
    by_cases hlt : j < 2
    ·have hj1 : (j : Int) < 2 := by omega
     obtain ⟨bv, hbv⟩ : ∃ bv : Bool, wc.cell? ⟨bz, j, none⟩ = some (.bool bv) := by
      have hr := (HBR2.out.block _ (zh HRZ.out).1).trans HRZ.out
      have : j = 0 ∨ j = 1 := by omega
      rcases this with rfl | rfl
      ·exact ⟨false, by rw [cell_of_row _ _ _ _ _ _ hr]; rfl⟩
      ·exact ⟨true, by rw [cell_of_row _ _ _ _ _ _ hr]; rfl⟩
     go_wp2_with fail
     refine (HEV.out wc HBWc.out).mono ?_
     rintro e w6 ⟨v6, rfl, hs6, hb6⟩
     have HS6 := hid hs6
     have HBc6 := hid hb6
     obtain ⟨p6, q6, rfl⟩ := hs6.val
     clear hs6 hb6 hbv
     go_wp2_with fail
     go_loopw [52] (fun v wr => ∃ k : Nat, k ≤ EV.length ∧ v = .int .i64 (k : Int) ∧ Hid (Below w6.heap.size w6 wr)) (fun v _ => EV.length - (intOf v).toNat)
     case atStart => exact ⟨0, Nat.zero_le _, rfl, hid (Below.refl _ _)⟩
     case round =>
      obtain ⟨k, hk2, rfl, HBR3⟩ := hrel
      obtain ⟨wd, hwd⟩ : ∃ wd, wd = wr := ⟨_, rfl⟩
      subst hwd
      have HBc := hid (HBc6.out.trans (HBR3.out.mono HBc6.out.size))
      have HBWd := hid (HBWc.out.trans (HBc.out.mono HBWc.out.size))
      have hk0 : (0 : Int) ≤ (k : Int) := by omega
      have hEL := HEL.out
      by_cases hlt2 : k < EV.length
      ·have hk1 : (k : Int) < (EV.length : Int) := by omega
       obtain ⟨bb, off, hab, hd0⟩ := text_at (HS6.out.below HBR3.out) hlt2
       subst hab
       generalize EV[k] = x at hd0
       obtain ⟨q, r, a1, n1, d1, f, a2, n2, d2, a3, n3, d3, mn, mt, ms, ma, mp, ml, ac, nc, cc, ah, nh, ch, is, hsh, hf, _, _, hown⟩ := wown_any x nm ty (HW.out.below HBWd.out)
       have hff : f = false := by rw [hf]; exact flat_face HFL.out x
       subst hff
       have hlk := world_look (HW.out.at_.below HBWd.out) x
       rw [hsh] at hlk
       have HLK := hid (fun (u : World) (hu : Below w.heap.size w u) => (by have := world_look (HW.out.at_.below hu) x; rwa [hsh] at this : (Instr.lookup 64 (.map (some b)) (.string x) false).run Tryz.prog u = .ok (.agg #[.string q, .string r, .slice a1 n1 d1, .bool false, .slice a2 n2 d2, .slice a3 n3 d3]) u))
       have HRFC := hid (fun u => run_face (.string q) (.string r) (.slice a1 n1 d1) (.slice a2 n2 d2) (.slice a3 n3 d3) false u)
       have HOWN := hid (hown wd (Below.refl _ _))
       clear hsh hf hown
       go_wp2_with fail
       refine HOWN.out.mono ?_
       rintro e w7 ⟨rfl, hb7⟩
       obtain ⟨W8, hW8⟩ : ∃ W8, w7.alloc (.cells #[.string mn, .string mt, .bool ms, .bool ma, .bool mp, .int .i64 ml, .slice ac nc cc, .slice ah nh ch] 44) = W8 := ⟨_, rfl⟩
       have HB78 : Hid (Below w7.heap.size w7 W8) := hid (hW8 ▸ ext_alloc _ _)
       have HBd8 := hid (hb7.trans (HB78.out.mono hb7.size))
       have HBR8 := hid (HBR3.out.trans (HBd8.out.mono HBR3.out.size))
       have HBW8 := hid (HBWd.out.trans (HBd8.out.mono HBWd.out.size))
       have hlk8 := HLK.out W8 HBW8.out
       have hrf := HRFC.out
       clear hb7 hlk
       cases is with
       | true =>
        go_wp2_with fail
        go_roundw
        case rel => exact ⟨k + 1, by omega, by simp, HBR8⟩
        case measure => simp [intOf]; omega
       | false =>
        go_wp2_with fail
        go_roundw
        case rel => exact ⟨k + 1, by omega, by simp, HBR8⟩
        case measure => simp [intOf]; omega
      ·obtain rfl : k = EV.length := by omega
       have HBE := hid (HBR2.out.trans (HBc.out.mono HBR2.out.size))
       clear hlt2
       go_wp2_with fail
       go_roundw
       case rel => exact ⟨j + 1, by omega, by simp, HBE⟩
       case measure => simp [intOf]; omega
    ·obtain rfl : j = 2 := by omega
     have HR9c := hid ((HB1c.out.block _ (zh HR9.out).1).trans HR9.out)
     clear hlt
     go_wp2_with (first
      | refine wpList_store_row rfl 44 (.tmp 9) (.tmp 82) rfl b9 _ rfl rfl 44 _ HR9c.out (by kernel_rfl) rfl (by simp [Value.oneCell']) ?_)
     refine bodyPost_ret (results_cell_mid rfl _ _ b9 _ _ _ _ rfl (setRow_heap _ _ _ _ _ _ HR9c.out) Tryz.underlying44 rfl (by kernel_rfl)) rfl ?_
     exact ⟨by rw [HZN.out]; rfl, below_setRow HBWc.out (by have := HB9E.out; omega) _⟩
theorem ffield_any (W : WL) (b : Nat) (n nm : ByteArray) (w : World) (hW : Wd w b W) (hF : Flat W) :
  Calls Tryz.prog 212 #[.map (some b), .string n, .string nm] w fun e w' => e = .returned (.tuple #[.string { data := #[] }, .agg #[.string { data := #[] }, .string { data := #[] }], .bool false]) ∧ Below w.heap.size w w' := by
 obtain ⟨b7, hb7⟩ : ∃ b7, w.heap.size = b7 := ⟨_, rfl⟩
 obtain ⟨W1, hW1⟩ : ∃ W1, w.alloc (.cells #[.string { data := #[] }, .string { data := #[] }] 153) = W1 := ⟨_, rfl⟩
 have HB1 : Hid (Below w.heap.size w W1) := hid (hW1 ▸ ext_alloc _ _)
 have HR7 : Hid (W1.heap[b7]? = some (.cells #[.string { data := #[] }, .string { data := #[] }] 153 (0, 0))) := hid (by rw [← hW1, ← hb7]; exact heap_alloc_new _ _)
 have HW := hid hW
 have HFL := hid hF
 obtain ⟨hln, hlnl⟩ := hW.line n
 have HLN := hid (fun (u : World) (hu : Below w.heap.size w u) => line_any W b n (lineOf W n) u (hW.at_.below hu) hln (by omega))
 obtain ⟨LN, hLN⟩ : ∃ LN, lineOf W n = LN := ⟨_, rfl⟩
 rw [hLN] at HLN hlnl
 clear hW hF hln hLN
 go_enter Tryz.func212, Tryz.ntmps212
 go_wp2_with fail
 refine (HLN.out W1 HB1.out).mono ?_
 rintro e w2 ⟨v2, rfl, ho2⟩
 have HB12 := hid ho2.below
 have HS2 := hid ho2.sl
 obtain ⟨p2, q2, rfl⟩ := ho2.sl.val
 clear ho2
 go_wp2_with fail
 go_loopw [17] (fun v wr => ∃ k : Nat, k ≤ LN.length ∧ v = .int .i64 (k : Int) ∧ w2 = wr) (fun v _ => LN.length - (intOf v).toNat)
 case atStart => exact ⟨0, Nat.zero_le _, rfl, rfl⟩
 case round =>
  obtain ⟨k, hk, rfl, rfl⟩ := hrel
  have HBW := hid (HB1.out.trans (HB12.out.mono HB1.out.size))
  have hk0 : (0 : Int) ≤ (k : Int) := by omega
  by_cases hlt : k < LN.length
  ·have hk1 : (k : Int) < (LN.length : Int) := by omega
   obtain ⟨bb, off, hab, hd0⟩ := text_at HS2.out hlt
   subst hab
   generalize LN[k] = x at hd0
   obtain ⟨q, r, a1, d1, a2, d2, a3, d3, hsh, _, _⟩ := cls_shape (HW.out.at_.below HBW.out) x
   have hlk := world_look (HW.out.at_.below HBW.out) x
   rw [hsh, flat_fields HFL.out x] at hlk
   simp only [List.length_nil] at hlk
   have hfl := fun u => run_fields (.string q) (.string r) (.slice a1 (cAt W x).faces.length d1) (.bool (cAt W x).face) (.slice a3 (cAt W x).mets.length d3) a2 0 d2 u
   clear hsh
   go_wp2_with fail
   go_loopw [26] (fun v wr => v = .int .i64 0 ∧ w2 = wr) (fun _ _ => 0)
   case atStart => exact ⟨rfl, rfl⟩
   case round =>
    obtain ⟨rfl, rfl⟩ := hrel
    go_wp2_with fail
    go_roundw
    case rel => exact ⟨k + 1, by omega, by simp, by first | rfl | trivial⟩
    case measure => simp [intOf]; omega
  ·obtain rfl : k = LN.length := by omega
   have HR7c := hid ((HB12.out.block _ (zh HR7.out).1).trans HR7.out)
   clear hlt
   go_wp2_with (first
    | refine wpList_store_row rfl 153 (.tmp 7) (.tmp 38) rfl b7 _ rfl rfl 153 _ HR7c.out (by kernel_rfl) rfl (by simp [Value.oneCell']) ?_)
   refine bodyPost_ret (results_cell_mid rfl _ _ b7 _ _ _ _ rfl (setRow_heap _ _ _ _ _ _ HR7c.out) Tryz.underlying153 rfl (by kernel_rfl)) rfl ?_
   exact ⟨rfl, below_setRow HBW.out (by omega) _⟩
end Go.Proofs.YtloonnfelgokmaaGreatDoor.worlds
