/- frame's stepper: call, in plain worlds. Condition: the world was read. -/
import Derived.Maps.RangeWalk
import Derived.Test.YtloonnfelgokmaaGreatDoorZStpB
import Derived.Test.YtloonnfelgokmaaGreatDoorZWldY
import Derived.Defers
import Derived.Recover
import Derived.Test.YtloonnfelgokmaaGreatDoorZGrowZ
import Derived.Test.YtloonnfelgokmaaGreatDoorZJnZ
import Derived.Test.YtloonnfelgokmaaGreatDoorZRet
set_option maxRecDepth 100000
set_option maxHeartbeats 16000000
set_option linter.unusedSimpArgs false
set_option linter.unusedVariables false
namespace Go.Proofs.YtloonnfelgokmaaGreatDoor.worlds
open Go.RowKit lib maps classes errs descs names grow keep ins
theorem scall_any {w0 w : World} {B b : Nat} {W : WL} {fr gv : ByteArray} {vL vS : Value} {L S : List ByteArray} (op a b2 : Int) (t c n : ByteArray) (st : Bool) (hF : Flat W) (hst : (op = 25 ∧ st = true) ∨ (op = 24 ∧ st = false)) (hm : (methodOf t.data.toList).isSome = true) (h : ST w0 w B b W fr gv vL vS L S) (hr : RightS W S) :
  Calls Tryz.prog 245 #[.pointer (some ⟨B, 0, none⟩), .agg #[.int .i64 op, .int .i64 a, .int .i64 b2, .string t, .string c, .string n], .bool st] w (TsBy w0 w B b W fr gv vL L (callS W fr ⟨op, a, b2, t, c, n⟩ S)) := by
 obtain ⟨Z, hZ⟩ : ∃ Z, callS W fr ⟨op, a, b2, t, c, n⟩ S = Z := ⟨_, rfl⟩
 obtain ⟨⟨ts, g⟩, hmo⟩ := Option.isSome_iff_exists.1 hm
 have hsm := text_small (make_method hmo).1
 have htz : t.size ≤ 10000000 := by
  have h1 := (make_method hmo).2
  have h2 := hsm.2.2.2.1
  rw [h1] at h2
  have : t.data.toList.length = t.size := Array.length_toList
  omega
 obtain ⟨bx, hbx⟩ : ∃ bx, w.heap.size = bx := ⟨_, rfl⟩
 obtain ⟨W1, hW1⟩ : ∃ W1, w.alloc (.cells #[.int .i64 op, .int .i64 a, .int .i64 b2, .string t, .string c, .string n] 56) = W1 := ⟨_, rfl⟩
 have HS0 : Hid (SX w0 w W1 B b W fr gv vL vS L S bx ⟨op, a, b2, t, c, n⟩) := hid (by rw [← hW1, ← hbx]; exact SX.box ⟨op, a, b2, t, c, n⟩ h)
 have HX : Hid (∀ u, Below W1.heap.size W1 u → u.cell? ⟨bx, 4, none⟩ = some (.string c) ∧ u.cell? ⟨bx, 5, none⟩ = some (.string n) ∧ u.cell? ⟨bx, 3, none⟩ = some (.string t) ∧ u.cell? ⟨B, 0, none⟩ = some (.map (some b)) ∧ u.cell? ⟨B, 1, none⟩ = some (.string fr) ∧ Wd u b W) := hid (fun u hu => ⟨(HS0.out.later hu).at_.2.2.2.2.1, (HS0.out.later hu).at_.2.2.2.2.2, (HS0.out.later hu).at_.2.2.2.1, (HS0.out.later hu).st.cells.1, (HS0.out.later hu).st.cells.2.1, (HS0.out.later hu).st.wd'⟩)
 have HRF := hid (fun u hu => rfound_any W b fr c n t st u hu hF)
 have HR0 := hid hr
 rw [hZ]
 cases hf : rfoundF W fr c n t st with
 | none =>
  rw [hf] at HRF
  have HZN : Hid (Z = none) := hid (by
   rw [← hZ]
   rcases hst with ⟨_, h2⟩ | ⟨h1, _⟩
   ·rw [h2] at hf; exact callS_no hF hf
   ·exact callS_24 h1)
  clear h hr hF hst hm hmo hsm htz hZ hf
  go_enter Tryz.func245, Tryz.ntmps245
  go_wp2_with fail
  obtain ⟨WD, hwd⟩ : ∃ WD, World.drew W1 = WD := ⟨_, rfl⟩
  have HWD : Hid (Below (W1).heap.size W1 WD) := hid (hwd ▸ (Below.refl _ _).drew)
  go_wp2_with fail
  refine wp_region_s (fun u => Below WD.heap.size WD u) 15 (by kernel_rfl) ?_
  show grow.wpAnyS _ _ _ _ _ _ _ _ _ (World.drew _)
  rw [hwd]
  refine zsd 0 _ _ rfl (fun _ => Below.refl _ _) ?_
  simp only [zg1, zg2, zg3, Act.put, zg4, zg5, zg6]
  refine zsd 1 _ _ rfl (fun _ => Below.refl _ _) ?_
  simp only [zg1, zg2, zg3, Act.put, zg4, zg5, zg6]
  refine zsd 2 _ _ rfl (fun _ => Below.refl _ _) ?_
  simp only [zg1, zg2, zg3, Act.put, zg4, zg5, zg6]
  refine zst 3 _ _ rfl (fun _ => Below.refl _ _) (fun u hu => by have q := (HX.out u (HWD.out.trans (hu.mono HWD.out.size))).2.2.2.1; go_simp; rfl) ?_
  simp only [zg1, zg2, zg3, Act.put, zg4, zg5, zg6]
  refine zsd 4 _ _ rfl (fun _ => Below.refl _ _) ?_
  simp only [zg1, zg2, zg3, Act.put, zg4, zg5, zg6]
  refine zsd 5 _ _ rfl (fun _ => Below.refl _ _) ?_
  simp only [zg1, zg2, zg3, Act.put, zg4, zg5, zg6]
  refine zsd 6 _ _ rfl (fun _ => Below.refl _ _) ?_
  simp only [zg1, zg2, zg3, Act.put, zg4, zg5, zg6]
  refine zst 7 _ _ rfl (fun _ => Below.refl _ _) (fun u hu => by have q := (HX.out u (HWD.out.trans (hu.mono HWD.out.size))).2.2.2.2.1; go_simp; rfl) ?_
  simp only [zg1, zg2, zg3, Act.put, zg4, zg5, zg6]
  refine zsd 8 _ _ rfl (fun _ => Below.refl _ _) ?_
  simp only [zg1, zg2, zg3, Act.put, zg4, zg5, zg6]
  refine zst 9 _ _ rfl (fun _ => Below.refl _ _) (fun u hu => by have q := (HX.out u (HWD.out.trans (hu.mono HWD.out.size))).1; go_simp; rfl) ?_
  simp only [zg1, zg2, zg3, Act.put, zg4, zg5, zg6]
  refine zsd 10 _ _ rfl (fun _ => Below.refl _ _) ?_
  simp only [zg1, zg2, zg3, Act.put, zg4, zg5, zg6]
  refine zst 11 _ _ rfl (fun _ => Below.refl _ _) (fun u hu => by have q := (HX.out u (HWD.out.trans (hu.mono HWD.out.size))).2.1; go_simp; rfl) ?_
  simp only [zg1, zg2, zg3, Act.put, zg4, zg5, zg6]
  refine zsd 12 _ _ rfl (fun _ => Below.refl _ _) ?_
  simp only [zg1, zg2, zg3, Act.put, zg4, zg5, zg6]
  refine zst 13 _ _ rfl (fun _ => Below.refl _ _) (fun u hu => by have q := (HX.out u (HWD.out.trans (hu.mono HWD.out.size))).2.2.1; go_simp; rfl) ?_
  simp only [zg1, zg2, zg3, Act.put, zg4, zg5, zg6]
  refine zsd 14 _ _ rfl (fun _ => Below.refl _ _) ?_
  simp only [zg1, zg2, zg3, Act.put, zg4, zg5, zg6]
  refine s_two 15 20 _ _ rfl rfl (by kernel_rfl) ?_ ?_
  ·go_simp
   refine (HRF.out WD (HX.out WD (HWD.out.trans ((Below.refl _ _).mono HWD.out.size))).2.2.2.2.2).mono ?_
   rintro e wz ⟨hbz, z, rfl⟩
   rw [show zeroM.cells.toArray = #[.string { data := #[] }, .string { data := #[] }, .bool false, .bool false, .bool false, .int .i64 0, .slice none 0 0, .slice none 0 0] from rfl]
   have HBZ : Hid (Below WD.heap.size WD wz) := hid hbz
   refine ⟨(fun h => absurd h (by decide)), ?_⟩
   try simp only [zg1, zg2, zg3, Act.put, zg4, zg5, zg6]
   clear hbz
   refine zsd 16 _ _ rfl (fun h => absurd h (by decide)) ?_
   simp only [zg1, zg2, zg3, Act.put, zg4, zg5, zg6]
   refine zsd 17 _ _ rfl (fun h => absurd h (by decide)) ?_
   simp only [zg1, zg2, zg3, Act.put, zg4, zg5, zg6]
   refine zsd 18 _ _ rfl (fun h => absurd h (by decide)) ?_
   simp only [zg1, zg2, zg3, Act.put, zg4, zg5, zg6]
   refine zsd 19 _ _ rfl (fun h => absurd h (by decide)) ?_
   simp only [zg1, zg2, zg3, Act.put, zg4, zg5, zg6]
   refine s_only 20 _ rfl (by kernel_rfl) ?_
   obtain ⟨wy, hnx⟩ : ∃ wn, wz.alloc (.cells #[.string { data := #[] }, .string { data := #[] }, .bool false, .bool false, .bool false, .int .i64 0, .slice none 0 0, .slice none 0 0] 44) = wn := ⟨_, rfl⟩
   obtain ⟨bz, hbz0⟩ : ∃ bz, wz.heap.size = bz := ⟨_, rfl⟩
   have HRZ : Hid (wy.heap[bz]? = some (.cells #[.string { data := #[] }, .string { data := #[] }, .bool false, .bool false, .bool false, .int .i64 0, .slice none 0 0, .slice none 0 0] 44 (0, 0))) := hid (hnx ▸ hbz0 ▸ heap_alloc_new _ _)
   have HBA : Hid (Below WD.heap.size WD wy) := hid (hnx ▸ (HBZ.out).alloc (HBZ.out).size _)
   have HLE : Hid (WD.heap.size ≤ bz) := hid (hbz0 ▸ (HBZ.out).size)
   go_simp
   try rw [hnx, hbz0]
   refine ⟨(fun h => absurd h (by decide)), ?_⟩
   try simp only [zg1, zg2, zg3, Act.put, zg4, zg5, zg6]
   have HRY := HRZ
   have HBY := HBA
   refine zsd 21 _ _ rfl (fun h => absurd h (by decide)) ?_
   simp only [zg1, zg2, zg3, Act.put, zg4, zg5, zg6]
   refine s_only 22 _ rfl (by kernel_rfl) ?_
   try rw [if_pos (by rfl)]
   refine wp_store_row 44 (.tmp 7) (.tmp 29) rfl bz #[.string { data := #[] }, .string { data := #[] }, .bool false, .bool false, .bool false, .int .i64 0, .slice none 0 0, .slice none 0 0] rfl rfl 44 _ HRY.out (by kernel_rfl) rfl (by simp [Value.oneCell']) ?_
   obtain ⟨WE, hWE⟩ : ∃ WE, wy.setRow bz #[.string { data := #[] }, .string { data := #[] }, .bool false, .bool false, .bool false, .int .i64 0, .slice none 0 0, .slice none 0 0] = WE := ⟨_, rfl⟩
   have HRE : Hid (WE.heap[bz]? = some (.cells #[.string { data := #[] }, .string { data := #[] }, .bool false, .bool false, .bool false, .int .i64 0, .slice none 0 0, .slice none 0 0] 44 (0, 0))) := hid (hWE ▸ setRow_heap _ _ _ _ _ _ HRY.out)
   have HBE : Hid (Below WD.heap.size WD WE) := hid (hWE ▸ below_setRow HBY.out HLE.out _)
   try rw [hWE]
   refine ⟨(fun h => absurd h (by decide)), ?_⟩
   try simp only [zg1, zg2, zg3, Act.put, zg4, zg5, zg6]
   refine zsd 23 _ _ rfl (fun h => absurd h (by decide)) ?_
   simp only [zg1, zg2, zg3, Act.put, zg4, zg5, zg6]
   refine s_end (by kernel_rfl) ?_
   clear hnx hbz0 hWE HRZ HBA HRY HBY HBZ hwd
   have HS2 := hid (HS0.out.later (HWD.out.trans (HBE.out.mono HWD.out.size)))
   clear HX
   go_wp2_with fail
   refine (need_no _).mono ?_
   rintro e w7 ⟨rfl, rfl⟩
   exact ⟨rfl, ts_none HZN.out ⟨HS2.out.st.below, HS2.out.oth⟩⟩
  ·obtain ⟨wx, hnx⟩ : ∃ wn, WD.alloc (.cells #[.string { data := #[] }, .string { data := #[] }, .bool false, .bool false, .bool false, .int .i64 0, .slice none 0 0, .slice none 0 0] 44) = wn := ⟨_, rfl⟩
   obtain ⟨bz, hbz0⟩ : ∃ bz, WD.heap.size = bz := ⟨_, rfl⟩
   have HRZ : Hid (wx.heap[bz]? = some (.cells #[.string { data := #[] }, .string { data := #[] }, .bool false, .bool false, .bool false, .int .i64 0, .slice none 0 0, .slice none 0 0] 44 (0, 0))) := hid (hnx ▸ hbz0 ▸ heap_alloc_new _ _)
   have HBA : Hid (Below WD.heap.size WD wx) := hid (hnx ▸ ((Below.refl WD.heap.size WD)).alloc ((Below.refl WD.heap.size WD)).size _)
   have HLE : Hid (WD.heap.size ≤ bz) := hid (hbz0 ▸ ((Below.refl WD.heap.size WD)).size)
   go_simp
   try rw [hnx, hbz0]
   refine ⟨fun _ => (by first | exact HBA.out | (show Below _ WD wx; rw [← hbz0]; exact HBA.out)), ?_⟩
   try simp only [zg1, zg2, zg3, Act.put, zg4, zg5, zg6]
   refine s_only 15 _ rfl (by kernel_rfl) ?_
   go_simp
   refine (HRF.out wx (HX.out wx (HWD.out.trans (HBA.out.mono HWD.out.size))).2.2.2.2.2).mono ?_
   rintro e wz ⟨hbz, z, rfl⟩
   rw [show zeroM.cells.toArray = #[.string { data := #[] }, .string { data := #[] }, .bool false, .bool false, .bool false, .int .i64 0, .slice none 0 0, .slice none 0 0] from rfl]
   have HRY := hid ((hbz.block bz (zh HRZ.out).1).trans HRZ.out)
   have HBY := hid (HBA.out.trans (hbz.mono HBA.out.size))
   refine ⟨(fun h => absurd h (by decide)), ?_⟩
   try simp only [zg1, zg2, zg3, Act.put, zg4, zg5, zg6]
   clear hbz
   refine zsd 16 _ _ rfl (fun h => absurd h (by decide)) ?_
   simp only [zg1, zg2, zg3, Act.put, zg4, zg5, zg6]
   refine zsd 17 _ _ rfl (fun h => absurd h (by decide)) ?_
   simp only [zg1, zg2, zg3, Act.put, zg4, zg5, zg6]
   refine zsd 18 _ _ rfl (fun h => absurd h (by decide)) ?_
   simp only [zg1, zg2, zg3, Act.put, zg4, zg5, zg6]
   refine zsd 19 _ _ rfl (fun h => absurd h (by decide)) ?_
   simp only [zg1, zg2, zg3, Act.put, zg4, zg5, zg6]
   refine zsd 21 _ _ rfl (fun h => absurd h (by decide)) ?_
   simp only [zg1, zg2, zg3, Act.put, zg4, zg5, zg6]
   refine s_only 22 _ rfl (by kernel_rfl) ?_
   try rw [if_pos (by rfl)]
   refine wp_store_row 44 (.tmp 7) (.tmp 29) rfl bz #[.string { data := #[] }, .string { data := #[] }, .bool false, .bool false, .bool false, .int .i64 0, .slice none 0 0, .slice none 0 0] rfl rfl 44 _ HRY.out (by kernel_rfl) rfl (by simp [Value.oneCell']) ?_
   obtain ⟨WE, hWE⟩ : ∃ WE, wz.setRow bz #[.string { data := #[] }, .string { data := #[] }, .bool false, .bool false, .bool false, .int .i64 0, .slice none 0 0, .slice none 0 0] = WE := ⟨_, rfl⟩
   have HRE : Hid (WE.heap[bz]? = some (.cells #[.string { data := #[] }, .string { data := #[] }, .bool false, .bool false, .bool false, .int .i64 0, .slice none 0 0, .slice none 0 0] 44 (0, 0))) := hid (hWE ▸ setRow_heap _ _ _ _ _ _ HRY.out)
   have HBE : Hid (Below WD.heap.size WD WE) := hid (hWE ▸ below_setRow HBY.out HLE.out _)
   try rw [hWE]
   refine ⟨(fun h => absurd h (by decide)), ?_⟩
   try simp only [zg1, zg2, zg3, Act.put, zg4, zg5, zg6]
   refine zsd 23 _ _ rfl (fun h => absurd h (by decide)) ?_
   simp only [zg1, zg2, zg3, Act.put, zg4, zg5, zg6]
   refine s_end (by kernel_rfl) ?_
   clear hnx hbz0 hWE HRZ HBA HRY HBY hwd
   have HS2 := hid (HS0.out.later (HWD.out.trans (HBE.out.mono HWD.out.size)))
   clear HX
   go_wp2_with fail
   refine (need_no _).mono ?_
   rintro e w7 ⟨rfl, rfl⟩
   exact ⟨rfl, ts_none HZN.out ⟨HS2.out.st.below, HS2.out.oth⟩⟩
 | some p =>
  obtain ⟨cn, m⟩ := p
  rw [hf] at HRF
  obtain ⟨rfl, rfl⟩ : op = 25 ∧ st = true := by
   rcases hst with h1 | ⟨_, h2⟩
   ·exact h1
   ·rw [h2, rfound_flat hF] at hf; cases hf
  have hmem : m ∈ (cAt W cn).mets := by
   unfold rfoundF at hf
   split at hf
   ·cases hf
   split at hf
   ·cases hf
   rename_i q hq
   split at hf
   ·cases hf
   split at hf
   ·obtain rfl := Option.some.inj hf
    exact (find_flat hF hq).1
   ·cases hf
  have HZ : Hid (Z = (takesS W (ts.map bs).reverse S).bind fun S => if g = [86] then some S else if ¬ knownK W (bs g) then none else putS S (bs g)) := hid (by rw [← hZ]; exact callS_yes (by show ¬ (25 : Int) = 24; decide) hf hmo)
  obtain ⟨ac, cc, h1⟩ := ((h.wd'.at_.at_ cn).mets.at_ m hmem).code.val
  obtain ⟨ah, ch, h2⟩ := ((h.wd'.at_.at_ cn).mets.at_ m hmem).hs.val
  have HMR : Hid (m.cells.toArray = #[.string m.nm, .string m.ty, .bool m.st, .bool m.ab, .bool m.pr, .int .i64 m.lo, .slice ac m.code.length cc, .slice ah m.hs.length ch]) := hid (by unfold MV.cells; rw [h1, h2])
  obtain ⟨mn, hmn⟩ : ∃ x, m.nm = x := ⟨_, rfl⟩
  obtain ⟨mt, hmt⟩ : ∃ x, m.ty = x := ⟨_, rfl⟩
  obtain ⟨ms, hms⟩ : ∃ x, m.st = x := ⟨_, rfl⟩
  obtain ⟨ma, hma⟩ : ∃ x, m.ab = x := ⟨_, rfl⟩
  obtain ⟨mp, hmp⟩ : ∃ x, m.pr = x := ⟨_, rfl⟩
  obtain ⟨ml, hml⟩ : ∃ x, m.lo = x := ⟨_, rfl⟩
  obtain ⟨nc, hnc⟩ : ∃ x, m.code.length = x := ⟨_, rfl⟩
  obtain ⟨nh, hnh⟩ : ∃ x, m.hs.length = x := ⟨_, rfl⟩
  rw [hmn, hmt, hms, hma, hmp, hml, hnc, hnh] at HMR
  have HTZ := hid htz
  have HMO := hid hmo
  have HSM := hid hsm
  clear h hr hF hst hm hmo hsm htz hZ hf hmem h1 h2 hmn hmt hms hma hmp hml hnc hnh
  go_enter Tryz.func245, Tryz.ntmps245
  go_wp2_with fail
  obtain ⟨WD, hwd⟩ : ∃ WD, World.drew W1 = WD := ⟨_, rfl⟩
  have HWD : Hid (Below (W1).heap.size W1 WD) := hid (hwd ▸ (Below.refl _ _).drew)
  go_wp2_with fail
  refine wp_region_s (fun u => Below WD.heap.size WD u) 15 (by kernel_rfl) ?_
  show grow.wpAnyS _ _ _ _ _ _ _ _ _ (World.drew _)
  rw [hwd]
  refine zsd 0 _ _ rfl (fun _ => Below.refl _ _) ?_
  simp only [zg1, zg2, zg3, Act.put, zg4, zg5, zg6]
  refine zsd 1 _ _ rfl (fun _ => Below.refl _ _) ?_
  simp only [zg1, zg2, zg3, Act.put, zg4, zg5, zg6]
  refine zsd 2 _ _ rfl (fun _ => Below.refl _ _) ?_
  simp only [zg1, zg2, zg3, Act.put, zg4, zg5, zg6]
  refine zst 3 _ _ rfl (fun _ => Below.refl _ _) (fun u hu => by have q := (HX.out u (HWD.out.trans (hu.mono HWD.out.size))).2.2.2.1; go_simp; rfl) ?_
  simp only [zg1, zg2, zg3, Act.put, zg4, zg5, zg6]
  refine zsd 4 _ _ rfl (fun _ => Below.refl _ _) ?_
  simp only [zg1, zg2, zg3, Act.put, zg4, zg5, zg6]
  refine zsd 5 _ _ rfl (fun _ => Below.refl _ _) ?_
  simp only [zg1, zg2, zg3, Act.put, zg4, zg5, zg6]
  refine zsd 6 _ _ rfl (fun _ => Below.refl _ _) ?_
  simp only [zg1, zg2, zg3, Act.put, zg4, zg5, zg6]
  refine zst 7 _ _ rfl (fun _ => Below.refl _ _) (fun u hu => by have q := (HX.out u (HWD.out.trans (hu.mono HWD.out.size))).2.2.2.2.1; go_simp; rfl) ?_
  simp only [zg1, zg2, zg3, Act.put, zg4, zg5, zg6]
  refine zsd 8 _ _ rfl (fun _ => Below.refl _ _) ?_
  simp only [zg1, zg2, zg3, Act.put, zg4, zg5, zg6]
  refine zst 9 _ _ rfl (fun _ => Below.refl _ _) (fun u hu => by have q := (HX.out u (HWD.out.trans (hu.mono HWD.out.size))).1; go_simp; rfl) ?_
  simp only [zg1, zg2, zg3, Act.put, zg4, zg5, zg6]
  refine zsd 10 _ _ rfl (fun _ => Below.refl _ _) ?_
  simp only [zg1, zg2, zg3, Act.put, zg4, zg5, zg6]
  refine zst 11 _ _ rfl (fun _ => Below.refl _ _) (fun u hu => by have q := (HX.out u (HWD.out.trans (hu.mono HWD.out.size))).2.1; go_simp; rfl) ?_
  simp only [zg1, zg2, zg3, Act.put, zg4, zg5, zg6]
  refine zsd 12 _ _ rfl (fun _ => Below.refl _ _) ?_
  simp only [zg1, zg2, zg3, Act.put, zg4, zg5, zg6]
  refine zst 13 _ _ rfl (fun _ => Below.refl _ _) (fun u hu => by have q := (HX.out u (HWD.out.trans (hu.mono HWD.out.size))).2.2.1; go_simp; rfl) ?_
  simp only [zg1, zg2, zg3, Act.put, zg4, zg5, zg6]
  refine zsd 14 _ _ rfl (fun _ => Below.refl _ _) ?_
  simp only [zg1, zg2, zg3, Act.put, zg4, zg5, zg6]
  refine s_two 15 20 _ _ rfl rfl (by kernel_rfl) ?_ ?_
  ·go_simp
   refine (HRF.out WD (HX.out WD (HWD.out.trans ((Below.refl _ _).mono HWD.out.size))).2.2.2.2.2).mono ?_
   rintro e wz ⟨hbz, rfl⟩
   rw [HMR.out]
   have HBZ : Hid (Below WD.heap.size WD wz) := hid hbz
   refine ⟨(fun h => absurd h (by decide)), ?_⟩
   try simp only [zg1, zg2, zg3, Act.put, zg4, zg5, zg6]
   clear hbz
   refine zsd 16 _ _ rfl (fun h => absurd h (by decide)) ?_
   simp only [zg1, zg2, zg3, Act.put, zg4, zg5, zg6]
   refine zsd 17 _ _ rfl (fun h => absurd h (by decide)) ?_
   simp only [zg1, zg2, zg3, Act.put, zg4, zg5, zg6]
   refine zsd 18 _ _ rfl (fun h => absurd h (by decide)) ?_
   simp only [zg1, zg2, zg3, Act.put, zg4, zg5, zg6]
   refine zsd 19 _ _ rfl (fun h => absurd h (by decide)) ?_
   simp only [zg1, zg2, zg3, Act.put, zg4, zg5, zg6]
   refine s_only 20 _ rfl (by kernel_rfl) ?_
   obtain ⟨wy, hnx⟩ : ∃ wn, wz.alloc (.cells #[.string { data := #[] }, .string { data := #[] }, .bool false, .bool false, .bool false, .int .i64 0, .slice none 0 0, .slice none 0 0] 44) = wn := ⟨_, rfl⟩
   obtain ⟨bz, hbz0⟩ : ∃ bz, wz.heap.size = bz := ⟨_, rfl⟩
   have HRZ : Hid (wy.heap[bz]? = some (.cells #[.string { data := #[] }, .string { data := #[] }, .bool false, .bool false, .bool false, .int .i64 0, .slice none 0 0, .slice none 0 0] 44 (0, 0))) := hid (hnx ▸ hbz0 ▸ heap_alloc_new _ _)
   have HBA : Hid (Below WD.heap.size WD wy) := hid (hnx ▸ (HBZ.out).alloc (HBZ.out).size _)
   have HLE : Hid (WD.heap.size ≤ bz) := hid (hbz0 ▸ (HBZ.out).size)
   go_simp
   try rw [hnx, hbz0]
   refine ⟨(fun h => absurd h (by decide)), ?_⟩
   try simp only [zg1, zg2, zg3, Act.put, zg4, zg5, zg6]
   have HRY := HRZ
   have HBY := HBA
   refine zsd 21 _ _ rfl (fun h => absurd h (by decide)) ?_
   simp only [zg1, zg2, zg3, Act.put, zg4, zg5, zg6]
   refine s_only 22 _ rfl (by kernel_rfl) ?_
   try rw [if_pos (by rfl)]
   refine wp_store_row 44 (.tmp 7) (.tmp 29) rfl bz #[.string mn, .string mt, .bool ms, .bool ma, .bool mp, .int .i64 ml, .slice ac nc cc, .slice ah nh ch] rfl rfl 44 _ HRY.out (by kernel_rfl) rfl (by simp [Value.oneCell']) ?_
   obtain ⟨WE, hWE⟩ : ∃ WE, wy.setRow bz #[.string mn, .string mt, .bool ms, .bool ma, .bool mp, .int .i64 ml, .slice ac nc cc, .slice ah nh ch] = WE := ⟨_, rfl⟩
   have HRE : Hid (WE.heap[bz]? = some (.cells #[.string mn, .string mt, .bool ms, .bool ma, .bool mp, .int .i64 ml, .slice ac nc cc, .slice ah nh ch] 44 (0, 0))) := hid (hWE ▸ setRow_heap _ _ _ _ _ _ HRY.out)
   have HBE : Hid (Below WD.heap.size WD WE) := hid (hWE ▸ below_setRow HBY.out HLE.out _)
   try rw [hWE]
   refine ⟨(fun h => absurd h (by decide)), ?_⟩
   try simp only [zg1, zg2, zg3, Act.put, zg4, zg5, zg6]
   refine zsd 23 _ _ rfl (fun h => absurd h (by decide)) ?_
   simp only [zg1, zg2, zg3, Act.put, zg4, zg5, zg6]
   refine s_end (by kernel_rfl) ?_
   clear hnx hbz0 hWE HRZ HBA HRY HBY HBZ hwd
   have HS2 := hid (HS0.out.later (HWD.out.trans (HBE.out.mono HWD.out.size)))
   obtain ⟨y0, y1, y2, y3, y4, y5⟩ := HS2.out.at_
   clear HX
   go_wp2_with fail
   refine (need_yes _).mono ?_
   rintro e w7 ⟨rfl, rfl⟩
   go_wp2_with fail
   refine (method_any t _ HTZ.out).mono ?_
   intro e w3 h3
   unfold MethodBy at h3
   rw [HMO.out] at h3
   obtain ⟨v, rfl, ho3⟩ := h3
   rw [map_sv] at ho3
   have hol : Out WE w3 9 1 v (ts.map bs).length ((ts.map bs).map .string) := by rw [List.length_map]; exact ho3
   have HVB : Hid (v.ownBlock ≠ some B) := hid (fun e => by
    have h1 := (ho3.own.lt B e).1
    have h2 := HS2.out.st.lt
    omega)
   have HO := hid hol
   have HLN : Hid ((ts.map bs).length = ts.length) := hid (List.length_map _)
   obtain ⟨av, cv, hv⟩ := ho3.sl.val
   subst hv
   clear ho3 hol y0 y1 y2 y3 y4 y5
   go_wp2_with fail
   refine (need_yes _).mono ?_
   rintro e w7 ⟨rfl, rfl⟩
   go_wp2_with fail
   refine (revs_any HO.out (by have := HSM.out.1; have := HLN.out; omega)).mono ?_
   rintro e w4 ⟨rfl, hsl4, hb4⟩
   have HS4 := hid (HS2.out.st.later hb4)
   have HO4 := hid (HS2.out.oth.trans (Oth.of_below hb4))
   have hsr : Sl w4 (.slice av ts.length cv) (ts.map bs).reverse.length 1 ((ts.map bs).reverse.map .string) := by rw [List.length_reverse]; exact hsl4
   have HTK := hid (stake_any (.slice av ts.length cv) (ts.map bs).reverse HS4.out hsr HVB.out HR0.out.right (fun k hk => by
    obtain ⟨q, hq, rfl⟩ := List.mem_map.1 (List.mem_reverse.1 hk)
    have hty : isTy q = true := List.all_eq_true.1 HSM.out.2.1 q hq
    have hty2 : isTy (bs q).data.toList = true := by rw [bs_data]; exact hty
    exact ⟨by have := ins.isTy_size hty2; omega, fun _ => hty2⟩) (by rw [List.length_reverse, HLN.out]; have := HSM.out.1; omega))
   clear hsl4 hb4 hsr
   go_wp2_with fail
   refine HTK.out.mono ?_
   intro e w5 h5
   cases ht : takesS W (ts.map bs).reverse S with
   | none =>
    have hk5 := h5.1
    have h6 := stp_no h5 (by rw [ht]; rfl)
    obtain ⟨rfl, hb5⟩ := h6
    exact ⟨rfl, ts_none (by rw [HZ.out, ht]; rfl) ⟨hb5, HO4.out.trans (oth_of HS4.out hk5 fun _ e => .inl e)⟩⟩
   | some T =>
    obtain ⟨rfl, hk5, vS5, hs5⟩ := stp_yes h5 (v := .tuple #[]) (T := T) (by rw [ht]; rfl)
    have HS5 := hid hs5
    have HO5 := hid (HO4.out.trans (oth_of HS4.out hk5 fun _ e => .inl e))
    have HGT := hid HSM.out.2.2.2.2
    by_cases hg : g = [86]
    ·have HZ5 : Hid (Z = some T) := hid (by rw [HZ.out, ht, Option.bind_some, if_pos hg])
     have q0 : (bs g).toList = [86] := by rw [ByteArray.toList_eq, bs_data, hg]
     generalize bs g = gg at q0
     have q1 : (gg.toList == [86]) = true := by rw [q0]; rfl
     have q3 : (gg.toList != [86]) = false := by rw [bne, q1]; rfl
     clear h5 hs5 hk5 ht hg HTK HO
     go_wp2_with fail
     go_end0
     exact ts_some HZ5.out HS5.out HO5.out
    ·have HZ5 : Hid (Z = if ¬ knownK W (bs g) then none else putS T (bs g)) := hid (by rw [HZ.out, ht, Option.bind_some, if_neg hg])
     have q0 : ¬ (bs g).toList = [86] := by rw [ByteArray.toList_eq, bs_data]; exact hg
     have HGS : Hid ((bs g).size ≤ 9223372036854775807) := hid (by
      rcases HGT.out with e | e
      ·exact absurd e hg
      ·have : isTy (bs g).data.toList = true := by rw [bs_data]; exact e
       have := ins.isTy_size this
       omega)
     clear h5 hs5 hk5 ht hg HTK HO
     generalize bs g = gg at q0 HZ5 HGS
     have q1 : (gg.toList == [86]) = false := by simpa using q0
     have q3 : (gg.toList != [86]) = true := by rw [bne, q1]; rfl
     go_wp2_with fail
     refine (sknown_any gg HGS.out HS5.out).mono ?_
     intro e w6 h6
     by_cases hk : kindF W gg.data.toList = 0
     ·have HZ6 : Hid (Z = putS T gg) := hid (by rw [HZ5.out, if_neg (fun e => e hk)])
      rw [if_pos hk] at h6
      obtain ⟨rfl, hk6, vS6, hs6⟩ := stp_yes h6 rfl
      have HS6 := hid hs6
      have HO6 := hid (HO5.out.trans (oth_of HS5.out hk6 fun _ e => .inl e))
      clear h6 hs6 hk6 hk q0 q1 q3
      go_wp2_with fail
      refine (sput_any gg HS6.out).mono ?_
      intro e w7 h7
      cases hp : putS T gg with
      | none =>
       have hk7 := h7.1
       obtain ⟨rfl, hb7⟩ := stp_no h7 (by rw [hp]; rfl)
       exact ⟨rfl, ts_none (by rw [HZ6.out, hp]) ⟨hb7, HO6.out.trans (oth_of HS6.out hk7 fun _ e => by rcases e with e | e; exact .inl e; exact .inr (.inl e))⟩⟩
      | some U =>
       obtain ⟨rfl, hk7, vS7, hs7⟩ := stp_yes h7 (v := .tuple #[]) (T := U) (by rw [hp]; rfl)
       have HS7 := hid hs7
       have HO7 := hid (HO6.out.trans (oth_of HS6.out hk7 fun _ e => by rcases e with e | e; exact .inl e; exact .inr (.inl e)))
       have HZ7 : Hid (Z = some U) := hid (by rw [HZ6.out, hp])
       clear h7 hs7 hk7 hp
       go_wp2_with fail
       go_end0
       exact ts_some HZ7.out HS7.out HO7.out
     ·rw [if_neg hk] at h6
      have hk6 := h6.1
      obtain ⟨rfl, hb6⟩ := stp_no h6 rfl
      exact ⟨rfl, ts_none (by rw [HZ5.out, if_pos (show ¬ knownK W gg from hk)]) ⟨hb6, HO5.out.trans (oth_of HS5.out hk6 fun _ e => .inl e)⟩⟩
  ·obtain ⟨wx, hnx⟩ : ∃ wn, WD.alloc (.cells #[.string { data := #[] }, .string { data := #[] }, .bool false, .bool false, .bool false, .int .i64 0, .slice none 0 0, .slice none 0 0] 44) = wn := ⟨_, rfl⟩
   obtain ⟨bz, hbz0⟩ : ∃ bz, WD.heap.size = bz := ⟨_, rfl⟩
   have HRZ : Hid (wx.heap[bz]? = some (.cells #[.string { data := #[] }, .string { data := #[] }, .bool false, .bool false, .bool false, .int .i64 0, .slice none 0 0, .slice none 0 0] 44 (0, 0))) := hid (hnx ▸ hbz0 ▸ heap_alloc_new _ _)
   have HBA : Hid (Below WD.heap.size WD wx) := hid (hnx ▸ ((Below.refl WD.heap.size WD)).alloc ((Below.refl WD.heap.size WD)).size _)
   have HLE : Hid (WD.heap.size ≤ bz) := hid (hbz0 ▸ ((Below.refl WD.heap.size WD)).size)
   go_simp
   try rw [hnx, hbz0]
   refine ⟨fun _ => (by first | exact HBA.out | (show Below _ WD wx; rw [← hbz0]; exact HBA.out)), ?_⟩
   try simp only [zg1, zg2, zg3, Act.put, zg4, zg5, zg6]
   refine s_only 15 _ rfl (by kernel_rfl) ?_
   go_simp
   refine (HRF.out wx (HX.out wx (HWD.out.trans (HBA.out.mono HWD.out.size))).2.2.2.2.2).mono ?_
   rintro e wz ⟨hbz, rfl⟩
   rw [HMR.out]
   have HRY := hid ((hbz.block bz (zh HRZ.out).1).trans HRZ.out)
   have HBY := hid (HBA.out.trans (hbz.mono HBA.out.size))
   refine ⟨(fun h => absurd h (by decide)), ?_⟩
   try simp only [zg1, zg2, zg3, Act.put, zg4, zg5, zg6]
   clear hbz
   refine zsd 16 _ _ rfl (fun h => absurd h (by decide)) ?_
   simp only [zg1, zg2, zg3, Act.put, zg4, zg5, zg6]
   refine zsd 17 _ _ rfl (fun h => absurd h (by decide)) ?_
   simp only [zg1, zg2, zg3, Act.put, zg4, zg5, zg6]
   refine zsd 18 _ _ rfl (fun h => absurd h (by decide)) ?_
   simp only [zg1, zg2, zg3, Act.put, zg4, zg5, zg6]
   refine zsd 19 _ _ rfl (fun h => absurd h (by decide)) ?_
   simp only [zg1, zg2, zg3, Act.put, zg4, zg5, zg6]
   refine zsd 21 _ _ rfl (fun h => absurd h (by decide)) ?_
   simp only [zg1, zg2, zg3, Act.put, zg4, zg5, zg6]
   refine s_only 22 _ rfl (by kernel_rfl) ?_
   try rw [if_pos (by rfl)]
   refine wp_store_row 44 (.tmp 7) (.tmp 29) rfl bz #[.string mn, .string mt, .bool ms, .bool ma, .bool mp, .int .i64 ml, .slice ac nc cc, .slice ah nh ch] rfl rfl 44 _ HRY.out (by kernel_rfl) rfl (by simp [Value.oneCell']) ?_
   obtain ⟨WE, hWE⟩ : ∃ WE, wz.setRow bz #[.string mn, .string mt, .bool ms, .bool ma, .bool mp, .int .i64 ml, .slice ac nc cc, .slice ah nh ch] = WE := ⟨_, rfl⟩
   have HRE : Hid (WE.heap[bz]? = some (.cells #[.string mn, .string mt, .bool ms, .bool ma, .bool mp, .int .i64 ml, .slice ac nc cc, .slice ah nh ch] 44 (0, 0))) := hid (hWE ▸ setRow_heap _ _ _ _ _ _ HRY.out)
   have HBE : Hid (Below WD.heap.size WD WE) := hid (hWE ▸ below_setRow HBY.out HLE.out _)
   try rw [hWE]
   refine ⟨(fun h => absurd h (by decide)), ?_⟩
   try simp only [zg1, zg2, zg3, Act.put, zg4, zg5, zg6]
   refine zsd 23 _ _ rfl (fun h => absurd h (by decide)) ?_
   simp only [zg1, zg2, zg3, Act.put, zg4, zg5, zg6]
   refine s_end (by kernel_rfl) ?_
   clear hnx hbz0 hWE HRZ HBA HRY HBY hwd
   have HS2 := hid (HS0.out.later (HWD.out.trans (HBE.out.mono HWD.out.size)))
   obtain ⟨y0, y1, y2, y3, y4, y5⟩ := HS2.out.at_
   clear HX
   go_wp2_with fail
   refine (need_yes _).mono ?_
   rintro e w7 ⟨rfl, rfl⟩
   go_wp2_with fail
   refine (method_any t _ HTZ.out).mono ?_
   intro e w3 h3
   unfold MethodBy at h3
   rw [HMO.out] at h3
   obtain ⟨v, rfl, ho3⟩ := h3
   rw [map_sv] at ho3
   have hol : Out WE w3 9 1 v (ts.map bs).length ((ts.map bs).map .string) := by rw [List.length_map]; exact ho3
   have HVB : Hid (v.ownBlock ≠ some B) := hid (fun e => by
    have h1 := (ho3.own.lt B e).1
    have h2 := HS2.out.st.lt
    omega)
   have HO := hid hol
   have HLN : Hid ((ts.map bs).length = ts.length) := hid (List.length_map _)
   obtain ⟨av, cv, hv⟩ := ho3.sl.val
   subst hv
   clear ho3 hol y0 y1 y2 y3 y4 y5
   go_wp2_with fail
   refine (need_yes _).mono ?_
   rintro e w7 ⟨rfl, rfl⟩
   go_wp2_with fail
   refine (revs_any HO.out (by have := HSM.out.1; have := HLN.out; omega)).mono ?_
   rintro e w4 ⟨rfl, hsl4, hb4⟩
   have HS4 := hid (HS2.out.st.later hb4)
   have HO4 := hid (HS2.out.oth.trans (Oth.of_below hb4))
   have hsr : Sl w4 (.slice av ts.length cv) (ts.map bs).reverse.length 1 ((ts.map bs).reverse.map .string) := by rw [List.length_reverse]; exact hsl4
   have HTK := hid (stake_any (.slice av ts.length cv) (ts.map bs).reverse HS4.out hsr HVB.out HR0.out.right (fun k hk => by
    obtain ⟨q, hq, rfl⟩ := List.mem_map.1 (List.mem_reverse.1 hk)
    have hty : isTy q = true := List.all_eq_true.1 HSM.out.2.1 q hq
    have hty2 : isTy (bs q).data.toList = true := by rw [bs_data]; exact hty
    exact ⟨by have := ins.isTy_size hty2; omega, fun _ => hty2⟩) (by rw [List.length_reverse, HLN.out]; have := HSM.out.1; omega))
   clear hsl4 hb4 hsr
   go_wp2_with fail
   refine HTK.out.mono ?_
   intro e w5 h5
   cases ht : takesS W (ts.map bs).reverse S with
   | none =>
    have hk5 := h5.1
    have h6 := stp_no h5 (by rw [ht]; rfl)
    obtain ⟨rfl, hb5⟩ := h6
    exact ⟨rfl, ts_none (by rw [HZ.out, ht]; rfl) ⟨hb5, HO4.out.trans (oth_of HS4.out hk5 fun _ e => .inl e)⟩⟩
   | some T =>
    obtain ⟨rfl, hk5, vS5, hs5⟩ := stp_yes h5 (v := .tuple #[]) (T := T) (by rw [ht]; rfl)
    have HS5 := hid hs5
    have HO5 := hid (HO4.out.trans (oth_of HS4.out hk5 fun _ e => .inl e))
    have HGT := hid HSM.out.2.2.2.2
    by_cases hg : g = [86]
    ·have HZ5 : Hid (Z = some T) := hid (by rw [HZ.out, ht, Option.bind_some, if_pos hg])
     have q0 : (bs g).toList = [86] := by rw [ByteArray.toList_eq, bs_data, hg]
     generalize bs g = gg at q0
     have q1 : (gg.toList == [86]) = true := by rw [q0]; rfl
     have q3 : (gg.toList != [86]) = false := by rw [bne, q1]; rfl
     clear h5 hs5 hk5 ht hg HTK HO
     go_wp2_with fail
     go_end0
     exact ts_some HZ5.out HS5.out HO5.out
    ·have HZ5 : Hid (Z = if ¬ knownK W (bs g) then none else putS T (bs g)) := hid (by rw [HZ.out, ht, Option.bind_some, if_neg hg])
     have q0 : ¬ (bs g).toList = [86] := by rw [ByteArray.toList_eq, bs_data]; exact hg
     have HGS : Hid ((bs g).size ≤ 9223372036854775807) := hid (by
      rcases HGT.out with e | e
      ·exact absurd e hg
      ·have : isTy (bs g).data.toList = true := by rw [bs_data]; exact e
       have := ins.isTy_size this
       omega)
     clear h5 hs5 hk5 ht hg HTK HO
     generalize bs g = gg at q0 HZ5 HGS
     have q1 : (gg.toList == [86]) = false := by simpa using q0
     have q3 : (gg.toList != [86]) = true := by rw [bne, q1]; rfl
     go_wp2_with fail
     refine (sknown_any gg HGS.out HS5.out).mono ?_
     intro e w6 h6
     by_cases hk : kindF W gg.data.toList = 0
     ·have HZ6 : Hid (Z = putS T gg) := hid (by rw [HZ5.out, if_neg (fun e => e hk)])
      rw [if_pos hk] at h6
      obtain ⟨rfl, hk6, vS6, hs6⟩ := stp_yes h6 rfl
      have HS6 := hid hs6
      have HO6 := hid (HO5.out.trans (oth_of HS5.out hk6 fun _ e => .inl e))
      clear h6 hs6 hk6 hk q0 q1 q3
      go_wp2_with fail
      refine (sput_any gg HS6.out).mono ?_
      intro e w7 h7
      cases hp : putS T gg with
      | none =>
       have hk7 := h7.1
       obtain ⟨rfl, hb7⟩ := stp_no h7 (by rw [hp]; rfl)
       exact ⟨rfl, ts_none (by rw [HZ6.out, hp]) ⟨hb7, HO6.out.trans (oth_of HS6.out hk7 fun _ e => by rcases e with e | e; exact .inl e; exact .inr (.inl e))⟩⟩
      | some U =>
       obtain ⟨rfl, hk7, vS7, hs7⟩ := stp_yes h7 (v := .tuple #[]) (T := U) (by rw [hp]; rfl)
       have HS7 := hid hs7
       have HO7 := hid (HO6.out.trans (oth_of HS6.out hk7 fun _ e => by rcases e with e | e; exact .inl e; exact .inr (.inl e)))
       have HZ7 : Hid (Z = some U) := hid (by rw [HZ6.out, hp])
       clear h7 hs7 hk7 hp
       go_wp2_with fail
       go_end0
       exact ts_some HZ7.out HS7.out HO7.out
     ·rw [if_neg hk] at h6
      have hk6 := h6.1
      obtain ⟨rfl, hb6⟩ := stp_no h6 rfl
      exact ⟨rfl, ts_none (by rw [HZ5.out, if_pos (show ¬ knownK W gg from hk)]) ⟨hb6, HO5.out.trans (oth_of HS5.out hk6 fun _ e => .inl e)⟩⟩
theorem shp_15 {w0 w : World} {B b : Nat} {W : WL} {fr gv : ByteArray} {vL vS : Value} {L S : List ByteArray} (a b2 : Int) (t c n : ByteArray) (hF : Flat W) (hc0 : c.size ≤ 1000000) (h : ST w0 w B b W fr gv vL vS L S) (hr : RightS W S) :
  Calls Tryz.prog 203 #[.pointer (some ⟨B, 0, none⟩), .agg #[.int .i64 15, .int .i64 a, .int .i64 b2, .string t, .string c, .string n]] w (PlnBy w0 w B b W fr gv (afterF W fr gv ⟨15, a, b2, t, c, n⟩ ⟨L, S⟩)) := by
 obtain ⟨Z, hZ⟩ : ∃ Z, afterF W fr gv ⟨15, a, b2, t, c, n⟩ ⟨L, S⟩ = Z := ⟨_, rfl⟩
 rw [hZ]
 have HZ : Hid (Z = if knownK W (thB c) then (putS S (thB c)).map (fun S => (⟨L, S⟩ : Fr)) else none) := hid (by rw [← hZ]; try rfl)
 obtain ⟨bx, hbx⟩ : ∃ bx, w.heap.size = bx := ⟨_, rfl⟩
 obtain ⟨W1, hW1⟩ : ∃ W1, w.alloc (.cells #[.int .i64 15, .int .i64 a, .int .i64 b2, .string t, .string c, .string n] 56) = W1 := ⟨_, rfl⟩
 have HS0 : Hid (SX w0 w W1 B b W fr gv vL vS L S bx ⟨15, a, b2, t, c, n⟩) := hid (by rw [← hW1, ← hbx]; exact SX.box ⟨15, a, b2, t, c, n⟩ h)
 obtain ⟨y0, y1, y2, y3, y4, y5⟩ := HS0.out.at_
 obtain ⟨x0, x1, x2, x3, x4⟩ := HS0.out.st.cells
 have HR0 := hid hr
 clear hZ h hr
 have HTH := hid (fun u => thing_any c u (by omega))
 have HTS : Hid ((bs (thingB c)).size ≤ 9223372036854775807) := hid (by
  have : (bs (thingB c)).size = c.size + 2 := by
   show (bs (thingB c)).data.size = c.data.size + 2
   simp [bs, thingB]
  omega)
 have HFL := hid hF
 change Hid (Z = if knownK W (bs (thingB c)) then (putS S (bs (thingB c))).map (fun S => (⟨L, S⟩ : Fr)) else none) at HZ
 generalize bs (thingB c) = tc at HTH HTS HZ
 clear hF hc0
 go_enter Tryz.func203, Tryz.ntmps203
 go_wp2_with fail
 refine (HTH.out _).mono ?_
 rintro e w9 ⟨rfl, rfl⟩
 go_wp2_with fail
 refine (pknown_any tc (HTS.out) HS0.out).mono ?_
 intro e w1 h1
 by_cases hc : ¬ knownK W tc
 ·rw [if_neg hc] at h1
  obtain ⟨rfl, hb1⟩ := h1
  exact ⟨rfl, pln_none (by rw [HZ.out, if_neg hc]) hb1⟩
 have hk : knownK W tc := by simpa using hc
 rw [if_pos hk] at h1
 obtain ⟨rfl, vS1, hs1⟩ := h1
 clear hW1 y0 y1 y2 y3 y4 y5
 obtain ⟨y0, y1, y2, y3, y4, y5⟩ := hs1.at_
 have HZ1 : Hid (Z = (putS S tc).map (fun S => (⟨L, S⟩ : Fr))) := hid (by rw [HZ.out, if_pos hk])
 have HS1 := hid hs1
 have HK1 := hid hk
 clear hc hk hs1
 obtain ⟨q1, r1, a1, d1, a2, d2, a3, d3, hsh, _, _⟩ := cls_shape HS1.out.st.wd'.at_ c
 rw [flat_face HFL.out c] at hsh
 obtain ⟨n1, hn1⟩ : ∃ n, (cAt W c).faces.length = n := ⟨_, rfl⟩
 obtain ⟨n2, hn2⟩ : ∃ n, (cAt W c).fields.length = n := ⟨_, rfl⟩
 obtain ⟨n3, hn3⟩ : ∃ n, (cAt W c).mets.length = n := ⟨_, rfl⟩
 rw [hn1, hn2, hn3] at hsh
 have HX : Hid (∀ u, Below w1.heap.size w1 u → u.cell? ⟨bx, 4, none⟩ = some (.string c) ∧ u.cell? ⟨B, 0, none⟩ = some (.map (some b)) ∧ (Instr.lookup 64 (.map (some b)) (.string c) false).run Tryz.prog u = .ok (.agg #[.string q1, .string r1, .slice a1 n1 d1, .bool false, .slice a2 n2 d2, .slice a3 n3 d3]) u) := hid (fun u hu => ⟨(HS1.out.later hu).at_.2.2.2.2.1, (HS1.out.later hu).st.cells.1, by rw [world_look (HS1.out.later hu).st.wd'.at_ c, hsh]⟩)
 clear hsh hn1 hn2 hn3
 go_wp2_with fail
 refine wp_region_ext_tail 9 [] trivial (by kernel_rfl) (by kernel_rfl) ?_
 refine zgc 1 ?_
 go_frame
 refine zgc 2 ?_
 go_frame
 refine zgc 3 ?_
 go_frame
 refine wpG_read 4 rfl rfl (.map (some b)) rfl ?_ ?_
 ·intro u hu hh
  have q := (HX.out u hu).2.1
  go_simp
 go_frame
 refine zgc 5 ?_
 go_frame
 refine wpG_read 6 rfl rfl (.string c) rfl ?_ ?_
 ·intro u hu hh
  have q := (HX.out u hu).1
  go_simp
 go_frame
 refine wpG_read 7 rfl rfl (.agg #[.string q1, .string r1, .slice a1 n1 d1, .bool false, .slice a2 n2 d2, .slice a3 n3 d3]) rfl ?_ ?_
 ·intro u hu hh
  have q := (HX.out u hu).2.2
  go_simp
 go_frame
 refine wpG_calc (v := .bool false) 8 rfl rfl rfl (fun u => by have q := run_face (.string q1) (.string r1) (.slice a1 n1 d1) (.slice a2 n2 d2) (.slice a3 n3 d3) false u; first | (go_simp; done) | (go_simp; rfl)) ?_
 go_frame
 refine wpG_calc (v := .bool true) 9 rfl rfl rfl (fun u => by first | (go_simp; done) | (go_simp; rfl)) ?_
 go_frame
 refine wpG_nil fun w' hb' hF => ?_
 have HS2 := hid (HS1.out.later hb')
 clear hb' hF HX y0 y1 y2 y3 y4 y5
 obtain ⟨y0, y1, y2, y3, y4, y5⟩ := HS2.out.at_
 go_wp2_with fail
 refine (need_yes _).mono ?_
 rintro e w9 ⟨rfl, rfl⟩
 go_wp2_with fail
 refine (HTH.out _).mono ?_
 rintro e w9 ⟨rfl, rfl⟩
 go_wp2_with fail
 refine (pput_any tc HS2.out).mono ?_
 intro e w3 h3
 cases hc : putS S tc with
 | none =>
  rw [hc] at h3
  obtain ⟨rfl, hb3⟩ := h3
  exact ⟨rfl, pln_none (by rw [HZ1.out, hc]; rfl) hb3⟩
 | some S3 =>
  rw [hc] at h3
  obtain ⟨rfl, vS3, hs3⟩ := h3
  clear y0 y1 y2 y3 y4 y5
  obtain ⟨y0, y1, y2, y3, y4, y5⟩ := hs3.at_
  have HZ3 : Hid (Z = some (⟨L, S3⟩ : Fr)) := hid (by rw [HZ1.out, hc]; rfl)
  have HS3 := hid hs3
  have HR3 : Hid (RightS W S3) := hid (HR0.out.put (kind_right.1 HK1.out) hc)
  clear hc hs3
  go_wp2_with fail
  go_end0
  exact pln_some HZ3.out HS3.out.st HS3.out.oth
theorem shp_16 {w0 w : World} {B b : Nat} {W : WL} {fr gv : ByteArray} {vL vS : Value} {L S : List ByteArray} (a b2 : Int) (t c n : ByteArray) (hF : Flat W) (hc0 : c.size ≤ 1000000) (h : ST w0 w B b W fr gv vL vS L S) (hr : RightS W S) :
  Calls Tryz.prog 203 #[.pointer (some ⟨B, 0, none⟩), .agg #[.int .i64 16, .int .i64 a, .int .i64 b2, .string t, .string c, .string n]] w (PlnBy w0 w B b W fr gv (afterF W fr gv ⟨16, a, b2, t, c, n⟩ ⟨L, S⟩)) := by
 obtain ⟨Z, hZ⟩ : ∃ Z, afterF W fr gv ⟨16, a, b2, t, c, n⟩ ⟨L, S⟩ = Z := ⟨_, rfl⟩
 rw [hZ]
 have HZ : Hid (Z = none) := hid (by rw [← hZ]; try rfl)
 obtain ⟨bx, hbx⟩ : ∃ bx, w.heap.size = bx := ⟨_, rfl⟩
 obtain ⟨W1, hW1⟩ : ∃ W1, w.alloc (.cells #[.int .i64 16, .int .i64 a, .int .i64 b2, .string t, .string c, .string n] 56) = W1 := ⟨_, rfl⟩
 have HS0 : Hid (SX w0 w W1 B b W fr gv vL vS L S bx ⟨16, a, b2, t, c, n⟩) := hid (by rw [← hW1, ← hbx]; exact SX.box ⟨16, a, b2, t, c, n⟩ h)
 obtain ⟨y0, y1, y2, y3, y4, y5⟩ := HS0.out.at_
 obtain ⟨x0, x1, x2, x3, x4⟩ := HS0.out.st.cells
 have HR0 := hid hr
 clear hZ h hr
 have HFD := hid (sfield_any 16 a b2 t c n hF hc0 HS0.out.st)
 clear hF hc0
 go_enter Tryz.func203, Tryz.ntmps203
 go_wp2_with fail
 refine HFD.out.mono ?_
 rintro e w9 ⟨rfl, hb9, ho9⟩
 exact ⟨rfl, pln_none HZ.out ⟨hb9, HS0.out.oth.trans ho9⟩⟩
theorem shp_17 {w0 w : World} {B b : Nat} {W : WL} {fr gv : ByteArray} {vL vS : Value} {L S : List ByteArray} (a b2 : Int) (t c n : ByteArray) (hF : Flat W) (hc0 : c.size ≤ 1000000) (h : ST w0 w B b W fr gv vL vS L S) (hr : RightS W S) :
  Calls Tryz.prog 203 #[.pointer (some ⟨B, 0, none⟩), .agg #[.int .i64 17, .int .i64 a, .int .i64 b2, .string t, .string c, .string n]] w (PlnBy w0 w B b W fr gv (afterF W fr gv ⟨17, a, b2, t, c, n⟩ ⟨L, S⟩)) := by
 obtain ⟨Z, hZ⟩ : ∃ Z, afterF W fr gv ⟨17, a, b2, t, c, n⟩ ⟨L, S⟩ = Z := ⟨_, rfl⟩
 rw [hZ]
 have HZ : Hid (Z = none) := hid (by rw [← hZ]; try rfl)
 obtain ⟨bx, hbx⟩ : ∃ bx, w.heap.size = bx := ⟨_, rfl⟩
 obtain ⟨W1, hW1⟩ : ∃ W1, w.alloc (.cells #[.int .i64 17, .int .i64 a, .int .i64 b2, .string t, .string c, .string n] 56) = W1 := ⟨_, rfl⟩
 have HS0 : Hid (SX w0 w W1 B b W fr gv vL vS L S bx ⟨17, a, b2, t, c, n⟩) := hid (by rw [← hW1, ← hbx]; exact SX.box ⟨17, a, b2, t, c, n⟩ h)
 obtain ⟨y0, y1, y2, y3, y4, y5⟩ := HS0.out.at_
 obtain ⟨x0, x1, x2, x3, x4⟩ := HS0.out.st.cells
 have HR0 := hid hr
 clear hZ h hr
 have HFD := hid (fun u (hu : Below W1.heap.size W1 u) => sfield_any 17 a b2 t c n hF hc0 (HS0.out.later hu).st)
 clear hF hc0
 go_enter Tryz.func203, Tryz.ntmps203
 go_wp2_with fail
 obtain ⟨WD, hwd⟩ : ∃ WD, World.drew W1 = WD := ⟨_, rfl⟩
 have HWD : Hid (Below W1.heap.size W1 WD) := hid (hwd ▸ (Below.refl _ _).drew)
 have HSD := hid (HS0.out.later HWD.out)
 have HRW := hid HSD.out.row
 have HYC := hid HSD.out.at_.2.2.2.2.1
 refine wp_region_c (fun u => u.heap[bx]? = some (.cells #[.int .i64 17, .int .i64 a, .int .i64 b2, .string t, .string c, .string n] 56 (0, 0))) (by kernel_rfl) ?_
 show wpAnyC _ _ _ _ _ _ _ _ (World.drew _)
 rw [hwd]
 refine zct 0 _ _ rfl HRW.out (fun u hu => by go_simp; rfl) ?_
 simp only [zg1, zg2, zg3, Act.put, zg4, zg5, zg6]
 refine zct 1 _ _ rfl HRW.out (fun u hu => by go_simp; rfl) ?_
 simp only [zg1, zg2, zg3, Act.put, zg4, zg5, zg6]
 refine zct 2 _ (.agg #[.int .i64 17, .int .i64 a, .int .i64 b2, .string t, .string c, .string n]) rfl HRW.out (fun u hu => by have hl := run_loadVar_row (P := Tryz.prog) u bx 56 56 #[.int .i64 17, .int .i64 a, .int .i64 b2, .string t, .string c, .string n] (0, 0) _ hu Tryz.underlying56 rfl (by kernel_rfl); simp only [List.getElem_toArray, List.getElem_cons_zero, List.getElem_cons_succ]; unfold execOp; simp only [Act.eval, Instr.loadAt, Instr.sureAddr, Sem.run_bind, Sem.run_pure]; change ((Sem.run Tryz.prog (loadVar 56 ⟨bx, 0, none⟩) u).andThen fun a w' => Result.ok (Next.value a) w') = _; rw [hl]; rfl) ?_
 simp only [zg1, zg2, zg3, Act.put, zg4, zg5, zg6]
 refine zct 4 _ _ rfl HRW.out (fun u hu => by go_simp; rfl) ?_
 simp only [zg1, zg2, zg3, Act.put, zg4, zg5, zg6]
 refine zct 5 _ _ rfl HRW.out (fun u hu => by have q : u.cell? ⟨bx, 4, none⟩ = some (.string c) := (by rw [cell_of_row _ _ _ _ _ _ hu]; try rfl); go_simp; rfl) ?_
 simp only [zg1, zg2, zg3, Act.put, zg4, zg5, zg6]
 refine c_only 3 _ rfl (by kernel_rfl) ?_
 go_simp
 refine (HFD.out _ HWD.out).mono ?_
 rintro e w9 ⟨rfl, hb9, ho9⟩
 exact ⟨rfl, pln_none HZ.out ⟨hb9, HSD.out.oth.trans ho9⟩⟩
theorem shp_18 {w0 w : World} {B b : Nat} {W : WL} {fr gv : ByteArray} {vL vS : Value} {L S : List ByteArray} (a b2 : Int) (t c n : ByteArray) (HT : Hid (isTy t.data.toList = true)) (HTA : Hid (isTy (91 :: t.data.toList) = true)) (h : ST w0 w B b W fr gv vL vS L S) (hr : RightS W S) :
  Calls Tryz.prog 203 #[.pointer (some ⟨B, 0, none⟩), .agg #[.int .i64 18, .int .i64 a, .int .i64 b2, .string t, .string c, .string n]] w (PlnBy w0 w B b W fr gv (afterF W fr gv ⟨18, a, b2, t, c, n⟩ ⟨L, S⟩)) := by
 obtain ⟨Z, hZ⟩ : ∃ Z, afterF W fr gv ⟨18, a, b2, t, c, n⟩ ⟨L, S⟩ = Z := ⟨_, rfl⟩
 rw [hZ]
 have HZ : Hid (Z = if knownK W t then ((takeS W S tI).bind fun S => putS S ({ data := #[91] } ++ t)).map (fun S => (⟨L, S⟩ : Fr)) else none) := hid (by rw [← hZ]; try rfl)
 obtain ⟨bx, hbx⟩ : ∃ bx, w.heap.size = bx := ⟨_, rfl⟩
 obtain ⟨W1, hW1⟩ : ∃ W1, w.alloc (.cells #[.int .i64 18, .int .i64 a, .int .i64 b2, .string t, .string c, .string n] 56) = W1 := ⟨_, rfl⟩
 have HS0 : Hid (SX w0 w W1 B b W fr gv vL vS L S bx ⟨18, a, b2, t, c, n⟩) := hid (by rw [← hW1, ← hbx]; exact SX.box ⟨18, a, b2, t, c, n⟩ h)
 obtain ⟨y0, y1, y2, y3, y4, y5⟩ := HS0.out.at_
 obtain ⟨x0, x1, x2, x3, x4⟩ := HS0.out.st.cells
 have HR0 := hid hr
 clear hZ h hr
 have HRR : Hid (knownK W t → RightK W (({ data := #[91] } : ByteArray) ++ t).data.toList) := hid (fun hk => by
  rw [cat_data]
  refine .inr (.inr ⟨HTA.out, fun hb => ?_⟩)
  rcases kind_right.1 hk with h | h | h
  ·rw [h] at HT; exact absurd HT.out (by decide +kernel)
  ·rw [h] at HT; exact absurd HT.out (by decide +kernel)
  ·rw [classB_arr] at hb; unfold classN at *; rw [classB_arr]; exact h.2 hb)
 have HTZ : Hid (t.size ≤ 9223372036854775807) := hid (by have := ins.isTy_size HT.out; omega)
 have hts := ins.isTy_size HT.out
 obtain ⟨nt, hnt⟩ : ∃ nt, ({ data := #[91] } : ByteArray) ++ t = nt := ⟨_, rfl⟩
 rw [hnt] at HZ HRR
 have HNT := hid hnt
 clear hnt
 go_enter Tryz.func203, Tryz.ntmps203
 go_wp2_with fail
 refine (pknown_any t (HTZ.out) HS0.out).mono ?_
 intro e w1 h1
 by_cases hc : ¬ knownK W t
 ·rw [if_neg hc] at h1
  obtain ⟨rfl, hb1⟩ := h1
  exact ⟨rfl, pln_none (by rw [HZ.out, if_neg hc]) hb1⟩
 have hk : knownK W t := by simpa using hc
 rw [if_pos hk] at h1
 obtain ⟨rfl, vS1, hs1⟩ := h1
 clear hW1 y0 y1 y2 y3 y4 y5
 obtain ⟨y0, y1, y2, y3, y4, y5⟩ := hs1.at_
 have HZ1 : Hid (Z = ((takeS W S tI).bind fun S => putS S nt).map (fun S => (⟨L, S⟩ : Fr))) := hid (by rw [HZ.out, if_pos hk])
 have HS1 := hid hs1
 have HK1 := hid hk
 clear hc hk hs1
 go_wp2_with fail
 refine (ptake_any tI (ty_I) HS1.out HR0.out).mono ?_
 intro e w2 h2
 cases hc : takeS W S tI with
 | none =>
  rw [hc] at h2
  obtain ⟨rfl, hb2⟩ := h2
  exact ⟨rfl, pln_none (by rw [HZ1.out, hc]; rfl) hb2⟩
 | some S2 =>
  rw [hc] at h2
  obtain ⟨rfl, vS2, hs2⟩ := h2
  clear y0 y1 y2 y3 y4 y5
  obtain ⟨y0, y1, y2, y3, y4, y5⟩ := hs2.at_
  have HZ2 : Hid (Z = (putS S2 nt).map (fun S => (⟨L, S⟩ : Fr))) := hid (by rw [HZ1.out, hc]; rfl)
  have HS2 := hid hs2
  have HR2 : Hid (RightS W S2) := hid (HR0.out.take hc)
  clear hc hs2
  go_wp2_with fail
  try rw [HNT.out]
  refine (pput_any nt HS2.out).mono ?_
  intro e w3 h3
  cases hc : putS S2 nt with
  | none =>
   rw [hc] at h3
   obtain ⟨rfl, hb3⟩ := h3
   exact ⟨rfl, pln_none (by rw [HZ2.out, hc]; rfl) hb3⟩
  | some S3 =>
   rw [hc] at h3
   obtain ⟨rfl, vS3, hs3⟩ := h3
   clear y0 y1 y2 y3 y4 y5
   obtain ⟨y0, y1, y2, y3, y4, y5⟩ := hs3.at_
   have HZ3 : Hid (Z = some (⟨L, S3⟩ : Fr)) := hid (by rw [HZ2.out, hc]; rfl)
   have HS3 := hid hs3
   have HR3 : Hid (RightS W S3) := hid (HR2.out.put (HRR.out HK1.out) hc)
   clear hc hs3
   go_wp2_with fail
   go_end0
   exact pln_some HZ3.out HS3.out.st HS3.out.oth
theorem shp_19 {w0 w : World} {B b : Nat} {W : WL} {fr gv : ByteArray} {vL vS : Value} {L S : List ByteArray} (a b2 : Int) (t c n : ByteArray)  (h : ST w0 w B b W fr gv vL vS L S) (hr : RightS W S) :
  Calls Tryz.prog 203 #[.pointer (some ⟨B, 0, none⟩), .agg #[.int .i64 19, .int .i64 a, .int .i64 b2, .string t, .string c, .string n]] w (PlnBy w0 w B b W fr gv (afterF W fr gv ⟨19, a, b2, t, c, n⟩ ⟨L, S⟩)) := by
 obtain ⟨Z, hZ⟩ : ∃ Z, afterF W fr gv ⟨19, a, b2, t, c, n⟩ ⟨L, S⟩ = Z := ⟨_, rfl⟩
 rw [hZ]
 have HZ : Hid (Z = ((refS S).bind fun p => if p.1 = tN ∨ p.1.data.toList.head? = some 91 then putS p.2 tI else none).map (fun S => (⟨L, S⟩ : Fr))) := hid (by rw [← hZ]; try rfl)
 obtain ⟨bx, hbx⟩ : ∃ bx, w.heap.size = bx := ⟨_, rfl⟩
 obtain ⟨W1, hW1⟩ : ∃ W1, w.alloc (.cells #[.int .i64 19, .int .i64 a, .int .i64 b2, .string t, .string c, .string n] 56) = W1 := ⟨_, rfl⟩
 have HS0 : Hid (SX w0 w W1 B b W fr gv vL vS L S bx ⟨19, a, b2, t, c, n⟩) := hid (by rw [← hW1, ← hbx]; exact SX.box ⟨19, a, b2, t, c, n⟩ h)
 obtain ⟨y0, y1, y2, y3, y4, y5⟩ := HS0.out.at_
 obtain ⟨x0, x1, x2, x3, x4⟩ := HS0.out.st.cells
 have HR0 := hid hr
 clear hZ h hr
 go_enter Tryz.func203, Tryz.ntmps203
 go_wp2_with fail
 refine (pref_any HS0.out).mono ?_
 intro e w1 h1
 cases hc : refS S with
 | none =>
  rw [hc] at h1
  obtain ⟨rfl, hb1⟩ := h1
  exact ⟨rfl, pln_none (by rw [HZ.out, hc]; rfl) hb1⟩
 | some p1 =>
  obtain ⟨k1, S1⟩ := p1
  rw [hc] at h1
  obtain ⟨rfl, vS1, hs1⟩ := h1
  clear hW1 y0 y1 y2 y3 y4 y5
  obtain ⟨y0, y1, y2, y3, y4, y5⟩ := hs1.at_
  have HZ1 : Hid (Z = (if k1 = tN ∨ k1.data.toList.head? = some 91 then putS S1 tI else none).map (fun S => (⟨L, S⟩ : Fr))) := hid (by rw [HZ.out, hc]; rfl)
  have HS1 := hid hs1
  have HR1 : Hid (RightS W S1) := hid (HR0.out.ref hc)
  have HK1 : Hid (RightK W k1.data.toList) := hid (by first | exact (HR0.out.pop hc).2 | (obtain ⟨e, _⟩ := ref_some hc; exact HR0.out.right _ (by rw [e]; simp)))
  clear hc hs1
  have HPF := hid (hasArr_any k1)
  by_cases hN : k1 = tN
  ·have q1 : (k1.toList == [78]) = true := by rw [hN, ByteArray.toList_eq]; rfl
   have q2 : k1.toList = [78] := by simpa using q1
   have HZ2 : Hid (Z = (putS S1 tI).map (fun S => (⟨L, S⟩ : Fr))) := hid (by rw [HZ1.out, if_pos (.inl hN)])
   clear hN
   go_wp2_with fail
   refine (need_yes _).mono ?_
   rintro e w9 ⟨rfl, rfl⟩
   go_wp2_with fail
   refine (pput_any tI HS1.out).mono ?_
   intro e w2 h2
   cases hc : putS S1 tI with
   | none =>
    rw [hc] at h2
    obtain ⟨rfl, hb2⟩ := h2
    exact ⟨rfl, pln_none (by rw [HZ2.out, hc]; rfl) hb2⟩
   | some S2 =>
    rw [hc] at h2
    obtain ⟨rfl, vS2, hs2⟩ := h2
    clear y0 y1 y2 y3 y4 y5
    obtain ⟨y0, y1, y2, y3, y4, y5⟩ := hs2.at_
    have HZ2 : Hid (Z = some (⟨L, S2⟩ : Fr)) := hid (by rw [HZ2.out, hc]; rfl)
    have HS2 := hid hs2
    have HR2 : Hid (RightS W S2) := hid (HR1.out.put (right_I W) hc)
    clear hc hs2
    go_wp2_with fail
    go_end0
    exact pln_some HZ2.out HS2.out.st HS2.out.oth
  ·have q2 : ¬ k1.toList = [78] := fun e => hN (by rw [ByteArray.toList_eq] at e; rw [← bs_list k1, e]; rfl)
   have q1 : (k1.toList == [78]) = false := by simpa using q2
   by_cases hA : k1.data.toList.head? = some 91
   ·have HZ2 : Hid (Z = (putS S1 tI).map (fun S => (⟨L, S⟩ : Fr))) := hid (by rw [HZ1.out, if_pos (.inr hA)])
    have HPT : Hid (∀ w, Calls Tryz.prog 51 #[.string k1, .string { data := #[91] }] w fun e w' => e = .returned (.bool true) ∧ w = w') := hid (fun w => (HPF.out w).mono fun e w' h => by rw [hA] at h; exact h)
    clear hA hN
    go_wp2_with fail
    refine (HPT.out _).mono ?_
    rintro e w8 ⟨rfl, rfl⟩
    go_wp2_with fail
    refine (need_yes _).mono ?_
    rintro e w9 ⟨rfl, rfl⟩
    go_wp2_with fail
    refine (pput_any tI HS1.out).mono ?_
    intro e w2 h2
    cases hc : putS S1 tI with
    | none =>
     rw [hc] at h2
     obtain ⟨rfl, hb2⟩ := h2
     exact ⟨rfl, pln_none (by rw [HZ2.out, hc]; rfl) hb2⟩
    | some S2 =>
     rw [hc] at h2
     obtain ⟨rfl, vS2, hs2⟩ := h2
     clear y0 y1 y2 y3 y4 y5
     obtain ⟨y0, y1, y2, y3, y4, y5⟩ := hs2.at_
     have HZ2 : Hid (Z = some (⟨L, S2⟩ : Fr)) := hid (by rw [HZ2.out, hc]; rfl)
     have HS2 := hid hs2
     have HR2 : Hid (RightS W S2) := hid (HR1.out.put (right_I W) hc)
     clear hc hs2
     go_wp2_with fail
     go_end0
     exact pln_some HZ2.out HS2.out.st HS2.out.oth
   ·have HZ2 : Hid (Z = none) := hid (by rw [HZ1.out, if_neg (fun e => by rcases e with e | e; exact hN e; exact hA e)]; rfl)
    have HPT : Hid (∀ w, Calls Tryz.prog 51 #[.string k1, .string { data := #[91] }] w fun e w' => e = .returned (.bool false) ∧ w = w') := hid (fun w => (HPF.out w).mono fun e w' h => by rw [decide_eq_false hA] at h; exact h)
    clear hA hN
    go_wp2_with fail
    refine (HPT.out _).mono ?_
    rintro e w8 ⟨rfl, rfl⟩
    go_wp2_with fail
    refine (need_no _).mono ?_
    rintro e w9 ⟨rfl, rfl⟩
    exact ⟨rfl, pln_none HZ2.out ⟨HS1.out.st.below, HS1.out.oth⟩⟩
theorem shp_20 {w0 w : World} {B b : Nat} {W : WL} {fr gv : ByteArray} {vL vS : Value} {L S : List ByteArray} (a b2 : Int) (t c n : ByteArray) (HT : Hid (isTy t.data.toList = true)) (h : ST w0 w B b W fr gv vL vS L S) (hr : RightS W S) :
  Calls Tryz.prog 203 #[.pointer (some ⟨B, 0, none⟩), .agg #[.int .i64 20, .int .i64 a, .int .i64 b2, .string t, .string c, .string n]] w (PlnBy w0 w B b W fr gv (afterF W fr gv ⟨20, a, b2, t, c, n⟩ ⟨L, S⟩)) := by
 obtain ⟨Z, hZ⟩ : ∃ Z, afterF W fr gv ⟨20, a, b2, t, c, n⟩ ⟨L, S⟩ = Z := ⟨_, rfl⟩
 rw [hZ]
 have HZ : Hid (Z = ((arrayS W S t).bind fun S => putS S t).map (fun S => (⟨L, S⟩ : Fr))) := hid (by rw [← hZ]; try rfl)
 obtain ⟨bx, hbx⟩ : ∃ bx, w.heap.size = bx := ⟨_, rfl⟩
 obtain ⟨W1, hW1⟩ : ∃ W1, w.alloc (.cells #[.int .i64 20, .int .i64 a, .int .i64 b2, .string t, .string c, .string n] 56) = W1 := ⟨_, rfl⟩
 have HS0 : Hid (SX w0 w W1 B b W fr gv vL vS L S bx ⟨20, a, b2, t, c, n⟩) := hid (by rw [← hW1, ← hbx]; exact SX.box ⟨20, a, b2, t, c, n⟩ h)
 obtain ⟨y0, y1, y2, y3, y4, y5⟩ := HS0.out.at_
 obtain ⟨x0, x1, x2, x3, x4⟩ := HS0.out.st.cells
 have HR0 := hid hr
 clear hZ h hr
 go_enter Tryz.func203, Tryz.ntmps203
 go_wp2_with fail
 refine (parray_any t HT.out HS0.out HR0.out).mono ?_
 intro e w1 h1
 cases hc : arrayS W S t with
 | none =>
  rw [hc] at h1
  obtain ⟨rfl, hb1⟩ := h1
  exact ⟨rfl, pln_none (by rw [HZ.out, hc]; rfl) hb1⟩
 | some S1 =>
  rw [hc] at h1
  obtain ⟨rfl, vS1, hs1⟩ := h1
  clear hW1 y0 y1 y2 y3 y4 y5
  obtain ⟨y0, y1, y2, y3, y4, y5⟩ := hs1.at_
  have HZ1 : Hid (Z = (putS S1 t).map (fun S => (⟨L, S⟩ : Fr))) := hid (by rw [HZ.out, hc]; rfl)
  have HS1 := hid hs1
  have HR1 : Hid (RightS W S1) := hid (HR0.out.array hc)
  have HKT := hid (kind_right.1 (array_some hc).1)
  clear hc hs1
  go_wp2_with fail
  refine (pput_any t HS1.out).mono ?_
  intro e w2 h2
  cases hc : putS S1 t with
  | none =>
   rw [hc] at h2
   obtain ⟨rfl, hb2⟩ := h2
   exact ⟨rfl, pln_none (by rw [HZ1.out, hc]; rfl) hb2⟩
  | some S2 =>
   rw [hc] at h2
   obtain ⟨rfl, vS2, hs2⟩ := h2
   clear y0 y1 y2 y3 y4 y5
   obtain ⟨y0, y1, y2, y3, y4, y5⟩ := hs2.at_
   have HZ2 : Hid (Z = some (⟨L, S2⟩ : Fr)) := hid (by rw [HZ1.out, hc]; rfl)
   have HS2 := hid hs2
   have HR2 : Hid (RightS W S2) := hid (HR1.out.put (HKT.out) hc)
   clear hc hs2
   go_wp2_with fail
   go_end0
   exact pln_some HZ2.out HS2.out.st HS2.out.oth
theorem shp_21 {w0 w : World} {B b : Nat} {W : WL} {fr gv : ByteArray} {vL vS : Value} {L S : List ByteArray} (a b2 : Int) (t c n : ByteArray) (HT : Hid (isTy t.data.toList = true)) (h : ST w0 w B b W fr gv vL vS L S) (hr : RightS W S) :
  Calls Tryz.prog 203 #[.pointer (some ⟨B, 0, none⟩), .agg #[.int .i64 21, .int .i64 a, .int .i64 b2, .string t, .string c, .string n]] w (PlnBy w0 w B b W fr gv (afterF W fr gv ⟨21, a, b2, t, c, n⟩ ⟨L, S⟩)) := by
 obtain ⟨Z, hZ⟩ : ∃ Z, afterF W fr gv ⟨21, a, b2, t, c, n⟩ ⟨L, S⟩ = Z := ⟨_, rfl⟩
 rw [hZ]
 have HZ : Hid (Z = if knownK W t then ((takeS W S t).bind fun S => arrayS W S t).map (fun S => (⟨L, S⟩ : Fr)) else none) := hid (by rw [← hZ]; try rfl)
 obtain ⟨bx, hbx⟩ : ∃ bx, w.heap.size = bx := ⟨_, rfl⟩
 obtain ⟨W1, hW1⟩ : ∃ W1, w.alloc (.cells #[.int .i64 21, .int .i64 a, .int .i64 b2, .string t, .string c, .string n] 56) = W1 := ⟨_, rfl⟩
 have HS0 : Hid (SX w0 w W1 B b W fr gv vL vS L S bx ⟨21, a, b2, t, c, n⟩) := hid (by rw [← hW1, ← hbx]; exact SX.box ⟨21, a, b2, t, c, n⟩ h)
 obtain ⟨y0, y1, y2, y3, y4, y5⟩ := HS0.out.at_
 obtain ⟨x0, x1, x2, x3, x4⟩ := HS0.out.st.cells
 have HR0 := hid hr
 clear hZ h hr
 have HTZ : Hid (t.size ≤ 9223372036854775807) := hid (by have := ins.isTy_size HT.out; omega)
 go_enter Tryz.func203, Tryz.ntmps203
 go_wp2_with fail
 refine (pknown_any t (HTZ.out) HS0.out).mono ?_
 intro e w1 h1
 by_cases hc : ¬ knownK W t
 ·rw [if_neg hc] at h1
  obtain ⟨rfl, hb1⟩ := h1
  exact ⟨rfl, pln_none (by rw [HZ.out, if_neg hc]) hb1⟩
 have hk : knownK W t := by simpa using hc
 rw [if_pos hk] at h1
 obtain ⟨rfl, vS1, hs1⟩ := h1
 clear hW1 y0 y1 y2 y3 y4 y5
 obtain ⟨y0, y1, y2, y3, y4, y5⟩ := hs1.at_
 have HZ1 : Hid (Z = ((takeS W S t).bind fun S => arrayS W S t).map (fun S => (⟨L, S⟩ : Fr))) := hid (by rw [HZ.out, if_pos hk])
 have HS1 := hid hs1
 have HK1 := hid hk
 clear hc hk hs1
 go_wp2_with fail
 refine (ptake_any t (HT.out) HS1.out HR0.out).mono ?_
 intro e w2 h2
 cases hc : takeS W S t with
 | none =>
  rw [hc] at h2
  obtain ⟨rfl, hb2⟩ := h2
  exact ⟨rfl, pln_none (by rw [HZ1.out, hc]; rfl) hb2⟩
 | some S2 =>
  rw [hc] at h2
  obtain ⟨rfl, vS2, hs2⟩ := h2
  clear y0 y1 y2 y3 y4 y5
  obtain ⟨y0, y1, y2, y3, y4, y5⟩ := hs2.at_
  have HZ2 : Hid (Z = (arrayS W S2 t).map (fun S => (⟨L, S⟩ : Fr))) := hid (by rw [HZ1.out, hc]; rfl)
  have HS2 := hid hs2
  have HR2 : Hid (RightS W S2) := hid (HR0.out.take hc)
  clear hc hs2
  go_wp2_with fail
  refine (parray_any t HT.out HS2.out HR2.out).mono ?_
  intro e w3 h3
  cases hc : arrayS W S2 t with
  | none =>
   rw [hc] at h3
   obtain ⟨rfl, hb3⟩ := h3
   exact ⟨rfl, pln_none (by rw [HZ2.out, hc]; rfl) hb3⟩
  | some S3 =>
   rw [hc] at h3
   obtain ⟨rfl, vS3, hs3⟩ := h3
   clear y0 y1 y2 y3 y4 y5
   obtain ⟨y0, y1, y2, y3, y4, y5⟩ := hs3.at_
   have HZ3 : Hid (Z = some (⟨L, S3⟩ : Fr)) := hid (by rw [HZ2.out, hc]; rfl)
   have HS3 := hid hs3
   have HR3 : Hid (RightS W S3) := hid (HR2.out.array hc)
   clear hc hs3
   go_wp2_with fail
   go_end0
   exact pln_some HZ3.out HS3.out.st HS3.out.oth
theorem shp_22 {w0 w : World} {B b : Nat} {W : WL} {fr gv : ByteArray} {vL vS : Value} {L S : List ByteArray} (a b2 : Int) (t c n : ByteArray) (HT : Hid (isTy t.data.toList = true)) (h : ST w0 w B b W fr gv vL vS L S) (hr : RightS W S) :
  Calls Tryz.prog 203 #[.pointer (some ⟨B, 0, none⟩), .agg #[.int .i64 22, .int .i64 a, .int .i64 b2, .string t, .string c, .string n]] w (PlnBy w0 w B b W fr gv (afterF W fr gv ⟨22, a, b2, t, c, n⟩ ⟨L, S⟩)) := by
 obtain ⟨Z, hZ⟩ : ∃ Z, afterF W fr gv ⟨22, a, b2, t, c, n⟩ ⟨L, S⟩ = Z := ⟨_, rfl⟩
 rw [hZ]
 have HZ : Hid (Z = if knownK W t then ((refS S).bind fun p => putS p.2 t).map (fun S => (⟨L, S⟩ : Fr)) else none) := hid (by rw [← hZ]; try rfl)
 obtain ⟨bx, hbx⟩ : ∃ bx, w.heap.size = bx := ⟨_, rfl⟩
 obtain ⟨W1, hW1⟩ : ∃ W1, w.alloc (.cells #[.int .i64 22, .int .i64 a, .int .i64 b2, .string t, .string c, .string n] 56) = W1 := ⟨_, rfl⟩
 have HS0 : Hid (SX w0 w W1 B b W fr gv vL vS L S bx ⟨22, a, b2, t, c, n⟩) := hid (by rw [← hW1, ← hbx]; exact SX.box ⟨22, a, b2, t, c, n⟩ h)
 obtain ⟨y0, y1, y2, y3, y4, y5⟩ := HS0.out.at_
 obtain ⟨x0, x1, x2, x3, x4⟩ := HS0.out.st.cells
 have HR0 := hid hr
 clear hZ h hr
 have HTZ : Hid (t.size ≤ 9223372036854775807) := hid (by have := ins.isTy_size HT.out; omega)
 go_enter Tryz.func203, Tryz.ntmps203
 go_wp2_with fail
 refine (pknown_any t (HTZ.out) HS0.out).mono ?_
 intro e w1 h1
 by_cases hc : ¬ knownK W t
 ·rw [if_neg hc] at h1
  obtain ⟨rfl, hb1⟩ := h1
  exact ⟨rfl, pln_none (by rw [HZ.out, if_neg hc]) hb1⟩
 have hk : knownK W t := by simpa using hc
 rw [if_pos hk] at h1
 obtain ⟨rfl, vS1, hs1⟩ := h1
 clear hW1 y0 y1 y2 y3 y4 y5
 obtain ⟨y0, y1, y2, y3, y4, y5⟩ := hs1.at_
 have HZ1 : Hid (Z = ((refS S).bind fun p => putS p.2 t).map (fun S => (⟨L, S⟩ : Fr))) := hid (by rw [HZ.out, if_pos hk])
 have HS1 := hid hs1
 have HK1 := hid hk
 clear hc hk hs1
 go_wp2_with fail
 refine (pref_any HS1.out).mono ?_
 intro e w2 h2
 cases hc : refS S with
 | none =>
  rw [hc] at h2
  obtain ⟨rfl, hb2⟩ := h2
  exact ⟨rfl, pln_none (by rw [HZ1.out, hc]; rfl) hb2⟩
 | some p2 =>
  obtain ⟨k2, S2⟩ := p2
  rw [hc] at h2
  obtain ⟨rfl, vS2, hs2⟩ := h2
  clear y0 y1 y2 y3 y4 y5
  obtain ⟨y0, y1, y2, y3, y4, y5⟩ := hs2.at_
  have HZ2 : Hid (Z = (putS S2 t).map (fun S => (⟨L, S⟩ : Fr))) := hid (by rw [HZ1.out, hc]; rfl)
  have HS2 := hid hs2
  have HR2 : Hid (RightS W S2) := hid (HR0.out.ref hc)
  have HK2 : Hid (RightK W k2.data.toList) := hid (by first | exact (HR0.out.pop hc).2 | (obtain ⟨e, _⟩ := ref_some hc; exact HR0.out.right _ (by rw [e]; simp)))
  clear hc hs2
  go_wp2_with fail
  refine (pput_any t HS2.out).mono ?_
  intro e w3 h3
  cases hc : putS S2 t with
  | none =>
   rw [hc] at h3
   obtain ⟨rfl, hb3⟩ := h3
   exact ⟨rfl, pln_none (by rw [HZ2.out, hc]; rfl) hb3⟩
  | some S3 =>
   rw [hc] at h3
   obtain ⟨rfl, vS3, hs3⟩ := h3
   clear y0 y1 y2 y3 y4 y5
   obtain ⟨y0, y1, y2, y3, y4, y5⟩ := hs3.at_
   have HZ3 : Hid (Z = some (⟨L, S3⟩ : Fr)) := hid (by rw [HZ2.out, hc]; rfl)
   have HS3 := hid hs3
   have HR3 : Hid (RightS W S3) := hid (HR2.out.put (kind_right.1 HK1.out) hc)
   clear hc hs3
   go_wp2_with fail
   go_end0
   exact pln_some HZ3.out HS3.out.st HS3.out.oth
theorem shp_23 {w0 w : World} {B b : Nat} {W : WL} {fr gv : ByteArray} {vL vS : Value} {L S : List ByteArray} (a b2 : Int) (t c n : ByteArray) (HT : Hid (isTy t.data.toList = true)) (h : ST w0 w B b W fr gv vL vS L S) (hr : RightS W S) :
  Calls Tryz.prog 203 #[.pointer (some ⟨B, 0, none⟩), .agg #[.int .i64 23, .int .i64 a, .int .i64 b2, .string t, .string c, .string n]] w (PlnBy w0 w B b W fr gv (afterF W fr gv ⟨23, a, b2, t, c, n⟩ ⟨L, S⟩)) := by
 obtain ⟨Z, hZ⟩ : ∃ Z, afterF W fr gv ⟨23, a, b2, t, c, n⟩ ⟨L, S⟩ = Z := ⟨_, rfl⟩
 rw [hZ]
 have HZ : Hid (Z = if knownK W t then ((refS S).bind fun p => putS p.2 tI).map (fun S => (⟨L, S⟩ : Fr)) else none) := hid (by rw [← hZ]; try rfl)
 obtain ⟨bx, hbx⟩ : ∃ bx, w.heap.size = bx := ⟨_, rfl⟩
 obtain ⟨W1, hW1⟩ : ∃ W1, w.alloc (.cells #[.int .i64 23, .int .i64 a, .int .i64 b2, .string t, .string c, .string n] 56) = W1 := ⟨_, rfl⟩
 have HS0 : Hid (SX w0 w W1 B b W fr gv vL vS L S bx ⟨23, a, b2, t, c, n⟩) := hid (by rw [← hW1, ← hbx]; exact SX.box ⟨23, a, b2, t, c, n⟩ h)
 obtain ⟨y0, y1, y2, y3, y4, y5⟩ := HS0.out.at_
 obtain ⟨x0, x1, x2, x3, x4⟩ := HS0.out.st.cells
 have HR0 := hid hr
 clear hZ h hr
 have HTZ : Hid (t.size ≤ 9223372036854775807) := hid (by have := ins.isTy_size HT.out; omega)
 go_enter Tryz.func203, Tryz.ntmps203
 go_wp2_with fail
 refine (pknown_any t (HTZ.out) HS0.out).mono ?_
 intro e w1 h1
 by_cases hc : ¬ knownK W t
 ·rw [if_neg hc] at h1
  obtain ⟨rfl, hb1⟩ := h1
  exact ⟨rfl, pln_none (by rw [HZ.out, if_neg hc]) hb1⟩
 have hk : knownK W t := by simpa using hc
 rw [if_pos hk] at h1
 obtain ⟨rfl, vS1, hs1⟩ := h1
 clear hW1 y0 y1 y2 y3 y4 y5
 obtain ⟨y0, y1, y2, y3, y4, y5⟩ := hs1.at_
 have HZ1 : Hid (Z = ((refS S).bind fun p => putS p.2 tI).map (fun S => (⟨L, S⟩ : Fr))) := hid (by rw [HZ.out, if_pos hk])
 have HS1 := hid hs1
 have HK1 := hid hk
 clear hc hk hs1
 go_wp2_with fail
 refine (pref_any HS1.out).mono ?_
 intro e w2 h2
 cases hc : refS S with
 | none =>
  rw [hc] at h2
  obtain ⟨rfl, hb2⟩ := h2
  exact ⟨rfl, pln_none (by rw [HZ1.out, hc]; rfl) hb2⟩
 | some p2 =>
  obtain ⟨k2, S2⟩ := p2
  rw [hc] at h2
  obtain ⟨rfl, vS2, hs2⟩ := h2
  clear y0 y1 y2 y3 y4 y5
  obtain ⟨y0, y1, y2, y3, y4, y5⟩ := hs2.at_
  have HZ2 : Hid (Z = (putS S2 tI).map (fun S => (⟨L, S⟩ : Fr))) := hid (by rw [HZ1.out, hc]; rfl)
  have HS2 := hid hs2
  have HR2 : Hid (RightS W S2) := hid (HR0.out.ref hc)
  have HK2 : Hid (RightK W k2.data.toList) := hid (by first | exact (HR0.out.pop hc).2 | (obtain ⟨e, _⟩ := ref_some hc; exact HR0.out.right _ (by rw [e]; simp)))
  clear hc hs2
  obtain ⟨hst, hfr⟩ := HS2.out.setT tI
  have HS3 := hid hst
  clear hst
  go_wp2_with fail
  refine (pput_any tI HS3.out).mono ?_
  intro e w4 h4
  cases hc : putS S2 tI with
  | none =>
   rw [hc] at h4
   obtain ⟨rfl, hb4⟩ := h4
   exact ⟨rfl, pln_none (by rw [HZ2.out, hc]; rfl) hb4⟩
  | some S4 =>
   rw [hc] at h4
   obtain ⟨rfl, vS4, hs4⟩ := h4
   clear y0 y1 y2 y3 y4 y5 hfr
   obtain ⟨y0, y1, y2, y3, y4, y5⟩ := hs4.at_
   have HZ4 : Hid (Z = some (⟨L, S4⟩ : Fr)) := hid (by rw [HZ2.out, hc]; rfl)
   have HS4 := hid hs4
   have HR4 : Hid (RightS W S4) := hid (HR2.out.put (right_I W) hc)
   clear hc hs4
   go_wp2_with fail
   go_end0
   exact pln_some HZ4.out HS4.out.st HS4.out.oth
theorem shp_24 {w0 w : World} {B b : Nat} {W : WL} {fr gv : ByteArray} {vL vS : Value} {L S : List ByteArray} (a b2 : Int) (t c n : ByteArray) (hF : Flat W) (hm : (methodOf t.data.toList).isSome = true) (h : ST w0 w B b W fr gv vL vS L S) (hr : RightS W S) :
  Calls Tryz.prog 203 #[.pointer (some ⟨B, 0, none⟩), .agg #[.int .i64 24, .int .i64 a, .int .i64 b2, .string t, .string c, .string n]] w (PlnBy w0 w B b W fr gv (afterF W fr gv ⟨24, a, b2, t, c, n⟩ ⟨L, S⟩)) := by
 obtain ⟨Z, hZ⟩ : ∃ Z, afterF W fr gv ⟨24, a, b2, t, c, n⟩ ⟨L, S⟩ = Z := ⟨_, rfl⟩
 rw [hZ]
 have HZ : Hid (Z = (callS W fr ⟨24, a, b2, t, c, n⟩ S).map (fun S => (⟨L, S⟩ : Fr))) := hid (by rw [← hZ]; try rfl)
 obtain ⟨bx, hbx⟩ : ∃ bx, w.heap.size = bx := ⟨_, rfl⟩
 obtain ⟨W1, hW1⟩ : ∃ W1, w.alloc (.cells #[.int .i64 24, .int .i64 a, .int .i64 b2, .string t, .string c, .string n] 56) = W1 := ⟨_, rfl⟩
 have HS0 : Hid (SX w0 w W1 B b W fr gv vL vS L S bx ⟨24, a, b2, t, c, n⟩) := hid (by rw [← hW1, ← hbx]; exact SX.box ⟨24, a, b2, t, c, n⟩ h)
 obtain ⟨y0, y1, y2, y3, y4, y5⟩ := HS0.out.at_
 obtain ⟨x0, x1, x2, x3, x4⟩ := HS0.out.st.cells
 have HR0 := hid hr
 clear hZ h hr
 have HCL := hid (scall_any 24 a b2 t c n false hF (by simp) hm HS0.out.st HR0.out)
 clear hF hm
 go_enter Tryz.func203, Tryz.ntmps203
 go_wp2_with fail
 refine HCL.out.mono ?_
 rintro e w1 ⟨ho1, h1⟩
 have HO1 := hid (HS0.out.oth.trans ho1)
 clear ho1
 cases hc : callS W fr ⟨24, a, b2, t, c, n⟩ S with
 | none =>
  rw [hc] at h1
  obtain ⟨rfl, hb⟩ := h1
  exact ⟨rfl, pln_none (by rw [HZ.out, hc]; rfl) ⟨hb, HO1.out⟩⟩
 | some T =>
  rw [hc] at h1
  obtain ⟨rfl, vS1, hs1⟩ := h1
  have HS1 := hid hs1
  have HZ1 : Hid (Z = some ⟨L, T⟩) := hid (by rw [HZ.out, hc]; rfl)
  clear hs1 hc
  go_wp2_with fail
  go_end0
  exact pln_some HZ1.out HS1.out HO1.out
theorem shp_25 {w0 w : World} {B b : Nat} {W : WL} {fr gv : ByteArray} {vL vS : Value} {L S : List ByteArray} (a b2 : Int) (t c n : ByteArray) (hF : Flat W) (hm : (methodOf t.data.toList).isSome = true) (h : ST w0 w B b W fr gv vL vS L S) (hr : RightS W S) :
  Calls Tryz.prog 203 #[.pointer (some ⟨B, 0, none⟩), .agg #[.int .i64 25, .int .i64 a, .int .i64 b2, .string t, .string c, .string n]] w (PlnBy w0 w B b W fr gv (afterF W fr gv ⟨25, a, b2, t, c, n⟩ ⟨L, S⟩)) := by
 obtain ⟨Z, hZ⟩ : ∃ Z, afterF W fr gv ⟨25, a, b2, t, c, n⟩ ⟨L, S⟩ = Z := ⟨_, rfl⟩
 rw [hZ]
 have HZ : Hid (Z = (callS W fr ⟨25, a, b2, t, c, n⟩ S).map (fun S => (⟨L, S⟩ : Fr))) := hid (by rw [← hZ]; try rfl)
 obtain ⟨bx, hbx⟩ : ∃ bx, w.heap.size = bx := ⟨_, rfl⟩
 obtain ⟨W1, hW1⟩ : ∃ W1, w.alloc (.cells #[.int .i64 25, .int .i64 a, .int .i64 b2, .string t, .string c, .string n] 56) = W1 := ⟨_, rfl⟩
 have HS0 : Hid (SX w0 w W1 B b W fr gv vL vS L S bx ⟨25, a, b2, t, c, n⟩) := hid (by rw [← hW1, ← hbx]; exact SX.box ⟨25, a, b2, t, c, n⟩ h)
 obtain ⟨y0, y1, y2, y3, y4, y5⟩ := HS0.out.at_
 obtain ⟨x0, x1, x2, x3, x4⟩ := HS0.out.st.cells
 have HR0 := hid hr
 clear hZ h hr
 have HCL := hid (scall_any 25 a b2 t c n true hF (by simp) hm HS0.out.st HR0.out)
 clear hF hm
 go_enter Tryz.func203, Tryz.ntmps203
 go_wp2_with fail
 refine HCL.out.mono ?_
 rintro e w1 ⟨ho1, h1⟩
 have HO1 := hid (HS0.out.oth.trans ho1)
 clear ho1
 cases hc : callS W fr ⟨25, a, b2, t, c, n⟩ S with
 | none =>
  rw [hc] at h1
  obtain ⟨rfl, hb⟩ := h1
  exact ⟨rfl, pln_none (by rw [HZ.out, hc]; rfl) ⟨hb, HO1.out⟩⟩
 | some T =>
  rw [hc] at h1
  obtain ⟨rfl, vS1, hs1⟩ := h1
  have HS1 := hid hs1
  have HZ1 : Hid (Z = some ⟨L, T⟩) := hid (by rw [HZ.out, hc]; rfl)
  clear hs1 hc
  go_wp2_with fail
  go_end0
  exact pln_some HZ1.out HS1.out HO1.out
theorem shp_no {w0 w : World} {B b : Nat} {W : WL} {fr gv : ByteArray} {vL vS : Value} {L S : List ByteArray} (op a b2 : Int) (t c n : ByteArray) (ho : ¬ op = 15 ∧ ¬ op = 16 ∧ ¬ op = 17 ∧ ¬ op = 18 ∧ ¬ op = 19 ∧ ¬ op = 20 ∧ ¬ op = 21 ∧ ¬ op = 22 ∧ ¬ op = 23 ∧ ¬ op = 24 ∧ ¬ op = 25) (h : ST w0 w B b W fr gv vL vS L S) (hr : RightS W S) :
  Calls Tryz.prog 203 #[.pointer (some ⟨B, 0, none⟩), .agg #[.int .i64 op, .int .i64 a, .int .i64 b2, .string t, .string c, .string n]] w (PlnBy w0 w B b W fr gv (some ⟨L, S⟩)) := by
 obtain ⟨Z, hZ⟩ : ∃ Z : Option Fr, some ⟨L, S⟩ = Z := ⟨_, rfl⟩
 rw [hZ]
 have HZ : Hid (Z = some (⟨L, S⟩ : Fr)) := hid (by rw [← hZ]; try rfl)
 obtain ⟨bx, hbx⟩ : ∃ bx, w.heap.size = bx := ⟨_, rfl⟩
 obtain ⟨W1, hW1⟩ : ∃ W1, w.alloc (.cells #[.int .i64 op, .int .i64 a, .int .i64 b2, .string t, .string c, .string n] 56) = W1 := ⟨_, rfl⟩
 have HS0 : Hid (SX w0 w W1 B b W fr gv vL vS L S bx ⟨op, a, b2, t, c, n⟩) := hid (by rw [← hW1, ← hbx]; exact SX.box ⟨op, a, b2, t, c, n⟩ h)
 obtain ⟨y0, y1, y2, y3, y4, y5⟩ := HS0.out.at_
 obtain ⟨x0, x1, x2, x3, x4⟩ := HS0.out.st.cells
 have HR0 := hid hr
 clear hZ h hr
 obtain ⟨o15, o16, o17, o18, o19, o20, o21, o22, o23, o24, o25⟩ := ho
 go_enter Tryz.func203, Tryz.ntmps203
 go_wp2_with fail
 go_end0
 exact pln_some HZ.out HS0.out.st HS0.out.oth
def thingsOp (op : Int) : Prop := 15 ≤ op ∧ op ≤ 25
instance (op : Int) : Decidable (thingsOp op) := by unfold thingsOp; infer_instance
def plainF (W : WL) (fr gv : ByteArray) (x : I) (f : Fr) : Option Fr := if thingsOp x.op then some f else afterF W fr gv x f
def thingsF (W : WL) (fr gv : ByteArray) (x : I) (f : Fr) : Option Fr := if thingsOp x.op then afterF W fr gv x f else some f
theorem after_both (W : WL) (fr gv : ByteArray) (x : I) (f : Fr) : afterF W fr gv x f = (plainF W fr gv x f).bind (thingsF W fr gv x) := by
 unfold plainF thingsF
 by_cases h : thingsOp x.op
 ·simp [h]
 ·simp [h]
theorem typed_ok {x : I} (h : insFault x = 0) : typedOk x = true ∧ (needC x.op = true → nameOk x.c.data.toList = true) ∧ 1 ≤ x.op ∧ x.op ≤ 28 := by
 unfold insFault at h
 split at h
 ·cases h
 rename_i h1
 split at h
 ·cases h
 split at h
 ·cases h
 split at h
 ·cases h
 rename_i h4
 refine ⟨by cases hq : typedOk x with | true => rfl | false => exact absurd (.inl hq) h4, fun hn => ?_, by omega, by omega⟩
 cases hq : nameOk x.c.data.toList with
 | true => rfl
 | false => exact absurd (.inr (.inl ⟨hn, hq⟩)) h4
theorem typed_refs {x : I} (h : insFault x = 0) (ho : x.op = 22 ∨ x.op = 23) : isTy x.t.data.toList = true := by
 have := (typed_ok h).1
 unfold typedOk at this
 rcases ho with ho | ho <;> (rw [ho] at this; simp [ins.isIn] at this; exact this.1)
theorem typed_met {x : I} (h : insFault x = 0) (ho : x.op = 24 ∨ x.op = 25) : (methodOf x.t.data.toList).isSome = true := by
 have := (typed_ok h).1
 unfold typedOk at this
 rcases ho with ho | ho <;> (rw [ho] at this; simpa [ins.isIn] using this)
theorem named_c {x : I} (h : insFault x = 0) (ho : ins.isIn x.op [15, 16, 17, 24, 25] = true) : x.c.size ≤ 1000000 := by
 have := (typed_ok h).2.1 ho
 have := name_size this
 omega
theorem splain_any {w0 w : World} {B b : Nat} {W : WL} {fr gv : ByteArray} {vL vS : Value} {L S : List ByteArray} (x : I) (hx : insFault x = 0) (hg : gv = { data := #[86] } ∨ isTy gv.data.toList = true) (h : ST w0 w B b W fr gv vL vS L S) (hr : RightF W ⟨L, S⟩) :
  Calls Tryz.prog 202 #[.pointer (some ⟨B, 0, none⟩), .agg x.cells.toArray] w (PlnBy w0 w B b W fr gv (plainF W fr gv x ⟨L, S⟩)) := by
 obtain ⟨op, a, b2, t, c, n⟩ := x
 have hs := hr.S
 have hwd := fun ho => typed_wd (x := ⟨op, a, b2, t, c, n⟩) hx ho
 have hloc := fun ho => ranged_loc (x := ⟨op, a, b2, t, c, n⟩) hx ho
 obtain ⟨_, _, h1, h2⟩ := typed_ok hx
 simp only at hwd hloc h1 h2
 by_cases hth : thingsOp op
 ·have : plainF W fr gv ⟨op, a, b2, t, c, n⟩ ⟨L, S⟩ = some ⟨L, S⟩ := by unfold plainF; exact if_pos hth
  rw [this]
  unfold thingsOp at hth
  exact spl_no op a b2 t c n (by omega) h hs
 have hpl : plainF W fr gv ⟨op, a, b2, t, c, n⟩ ⟨L, S⟩ = afterF W fr gv ⟨op, a, b2, t, c, n⟩ ⟨L, S⟩ := by unfold plainF; exact if_neg hth
 rw [hpl]
 unfold thingsOp at hth
 have hcase : op = 1 ∨ op = 2 ∨ op = 3 ∨ op = 4 ∨ op = 5 ∨ op = 6 ∨ op = 7 ∨ op = 8 ∨ op = 9 ∨ op = 10 ∨ op = 11 ∨ op = 12 ∨ op = 13 ∨ op = 14 ∨ op = 26 ∨ op = 27 ∨ op = 28 := by omega
 rcases hcase with rfl | rfl | rfl | rfl | rfl | rfl | rfl | rfl | rfl | rfl | rfl | rfl | rfl | rfl | rfl | rfl | rfl
 ·exact spl_no 1 a b2 t c n (by omega) h hs
 ·exact spl_2 a b2 t c n (hid (right_wd W (hwd rfl))) h hs
 ·exact spl_3 a b2 t c n h hs
 ·obtain ⟨ha0, _⟩ := hloc (.inl rfl)
  cases hl : L[a.toNat]? with
  | none => exact spl_4out a b2 t c n ha0 hl h hs
  | some k =>
   by_cases hT : k = tT
   ·exact spl_4no a b2 t c n ha0 k hl hT h hs
   ·exact spl_4yes a b2 t c n ha0 k hl hl hT (hid hr.L) h hs
 ·obtain ⟨ha0, _⟩ := hloc (.inr rfl)
  by_cases hl : a.toNat < L.length
  ·exact spl_5yes a b2 t c n ha0 hl h hs
  ·exact spl_5out a b2 t c n ha0 hl h hs
 ·exact spl_6 a b2 t c n h hs
 ·exact spl_7 a b2 t c n h hs
 ·exact spl_8 a b2 t c n h hs
 ·have hw := hwd rfl
  by_cases a1 : a = 12
  ·exact spl_9n a b2 t c n (hid (wd_ty hw)) (hid (right_wd W hw)) a1 h hs
  by_cases a2 : a = 9 ∨ a = 10 ∨ a = 11
  ·exact spl_9s a b2 t c n (hid (wd_ty hw)) (hid (right_wd W hw)) a2 h hs
  ·exact spl_9o a b2 t c n (hid (wd_ty hw)) (hid (right_wd W hw)) (by omega) h hs
 ·exact spl_10 a b2 t c n (hid (right_wd W (hwd rfl))) h hs
 ·exact spl_11 a b2 t c n h hs
 ·exact spl_12 a b2 t c n h hs
 ·exact spl_13 a b2 t c n h hs
 ·exact spl_no 14 a b2 t c n (by omega) h hs
 ·by_cases hv : gv = { data := #[86] }
  ·exact spl_26y a b2 t c n hv h hs
  ·exact spl_26n a b2 t c n hv h hs
 ·by_cases hv : gv = { data := #[86] }
  ·exact spl_27y a b2 t c n hv h hs
  ·exact spl_27n a b2 t c n hv (hid (hg.resolve_left hv)) h hs
 ·exact spl_28 a b2 t c n h hs
theorem sthings_any {w0 w : World} {B b : Nat} {W : WL} {fr gv : ByteArray} {vL vS : Value} {L S : List ByteArray} (x : I) (hx : insFault x = 0) (hF : Flat W) (h : ST w0 w B b W fr gv vL vS L S) (hs : RightS W S) :
  Calls Tryz.prog 203 #[.pointer (some ⟨B, 0, none⟩), .agg x.cells.toArray] w (PlnBy w0 w B b W fr gv (thingsF W fr gv x ⟨L, S⟩)) := by
 obtain ⟨op, a, b2, t, c, n⟩ := x
 have harr := fun ho => typed_arr (x := ⟨op, a, b2, t, c, n⟩) hx ho
 have href := fun ho => typed_refs (x := ⟨op, a, b2, t, c, n⟩) hx ho
 have hmet := fun ho => typed_met (x := ⟨op, a, b2, t, c, n⟩) hx ho
 have hnam := fun ho => named_c (x := ⟨op, a, b2, t, c, n⟩) hx ho
 simp only at harr href hmet hnam
 by_cases hth : thingsOp op
 ·have hpl : thingsF W fr gv ⟨op, a, b2, t, c, n⟩ ⟨L, S⟩ = afterF W fr gv ⟨op, a, b2, t, c, n⟩ ⟨L, S⟩ := by unfold thingsF; exact if_pos hth
  rw [hpl]
  unfold thingsOp at hth
  have hcase : op = 15 ∨ op = 16 ∨ op = 17 ∨ op = 18 ∨ op = 19 ∨ op = 20 ∨ op = 21 ∨ op = 22 ∨ op = 23 ∨ op = 24 ∨ op = 25 := by omega
  rcases hcase with rfl | rfl | rfl | rfl | rfl | rfl | rfl | rfl | rfl | rfl | rfl
  ·exact shp_15 a b2 t c n hF (hnam rfl) h hs
  ·exact shp_16 a b2 t c n hF (hnam rfl) h hs
  ·exact shp_17 a b2 t c n hF (hnam rfl) h hs
  ·exact shp_18 a b2 t c n (hid (harr rfl).1) (hid (harr rfl).2) h hs
  ·exact shp_19 a b2 t c n h hs
  ·exact shp_20 a b2 t c n (hid (harr rfl).1) h hs
  ·exact shp_21 a b2 t c n (hid (harr rfl).1) h hs
  ·exact shp_22 a b2 t c n (hid (href (.inl rfl))) h hs
  ·exact shp_23 a b2 t c n (hid (href (.inr rfl))) h hs
  ·exact shp_24 a b2 t c n hF (hmet (.inl rfl)) h hs
  ·exact shp_25 a b2 t c n hF (hmet (.inr rfl)) h hs
 ·have : thingsF W fr gv ⟨op, a, b2, t, c, n⟩ ⟨L, S⟩ = some ⟨L, S⟩ := by unfold thingsF; exact if_neg hth
  rw [this]
  unfold thingsOp at hth
  exact shp_no op a b2 t c n (by omega) h hs
def AfterBy (w : World) (r : Option Fr) (e : Ending) (w' : World) : Prop := Below w.heap.size w w' ∧ match r with
 | none => e = .returned (.tuple #[.agg #[.slice none 0 0, .slice none 0 0], .bool false])
 | some g => ∃ vL vS, e = .returned (.tuple #[.agg #[vL, vS], .bool true]) ∧ Out w w' 9 1 vL g.L.length (g.L.map .string) ∧ Out w w' 9 1 vS g.S.length (g.S.map .string)
structure AR (w : World) (b8 b10 b11 : Nat) (x : I) : Prop where
 r8 : w.heap[b8]? = some (.cells x.cells.toArray 56 (0, 0))
 r10 : w.heap[b10]? = some (.cells #[.slice none 0 0, .slice none 0 0] 163 (0, 0))
 r11 : w.heap[b11]? = some (.cells #[.bool false] 4 (0, 0))
theorem AR.oth {w w' : World} {b8 b10 b11 B : Nat} {x : I} (h : AR w b8 b10 b11 x) (ho : Oth B w w') (h8 : b8 ≠ B) (h10 : b10 ≠ B) (h11 : b11 ≠ B) : AR w' b8 b10 b11 x :=
 ⟨ho.2 _ _ _ h.r8 (by decide) h8, ho.2 _ _ _ h.r10 (by decide) h10, ho.2 _ _ _ h.r11 (by decide) h11⟩
theorem AR.later {w w' : World} {b8 b10 b11 : Nat} {x : I} (h : AR w b8 b10 b11 x) (hb : Below w.heap.size w w') : AR w' b8 b10 b11 x :=
 ⟨(hb.block _ (zh h.r8).1).trans h.r8, (hb.block _ (zh h.r10).1).trans h.r10, (hb.block _ (zh h.r11).1).trans h.r11⟩
theorem AR.at_ {w : World} {b8 b10 b11 : Nat} {x : I} (h : AR w b8 b10 b11 x) :
  w.cell? ⟨b8, 0, none⟩ = some (.int .i64 x.op) ∧ w.cell? ⟨b8, 1, none⟩ = some (.int .i64 x.a) ∧ w.cell? ⟨b8, 2, none⟩ = some (.int .i64 x.b) ∧ w.cell? ⟨b8, 3, none⟩ = some (.string x.t) ∧ w.cell? ⟨b8, 4, none⟩ = some (.string x.c) ∧ w.cell? ⟨b8, 5, none⟩ = some (.string x.n) := by
 refine ⟨?_, ?_, ?_, ?_, ?_, ?_⟩ <;> (rw [cell_of_row _ _ _ _ _ _ h.r8]; rfl)
theorem take_eq_step {l m : List ByteArray} {k : Nat} (h : l.take k = m.take k) (h1 : k < l.length) (h2 : k < m.length) (he : l[k] = m[k]) : l.take (k + 1) = m.take (k + 1) := by
 rw [List.take_succ_eq_append_getElem h1, List.take_succ_eq_append_getElem h2, h, he]
theorem equalt_any (va vb : Value) (l m : List ByteArray) (w : World) (ha : Sl w va l.length 1 (l.map .string)) (hb : Sl w vb m.length 1 (m.map .string)) (hn : l.length ≤ 1000000) (hm : m.length ≤ 1000000) :
  Calls Tryz.prog 199 #[va, vb] w fun e w' => e = .returned (.bool (decide (l = m))) ∧ Below w.heap.size w w' := by
 have HA := hid ha
 have HB := hid hb
 obtain ⟨aa, ca, rfl⟩ := ha.val
 obtain ⟨ab, cb, rfl⟩ := hb.val
 clear ha hb
 by_cases hl : l.length = m.length
 ·have HL := hid hl
  rw [← hl]
  clear hl
  go_enter Tryz.func199, Tryz.ntmps199
  go_wp2_with fail
  go_loopw [13] (fun v wr => ∃ k : Nat, k ≤ l.length ∧ v = .int .i64 (k : Int) ∧ Hid (Below w.heap.size w wr) ∧ Hid (l.take k = m.take k)) (fun v _ => l.length - (intOf v).toNat)
  case atStart => exact ⟨0, Nat.zero_le _, rfl, hid (Below.refl _ _), hid rfl⟩
  case round =>
   obtain ⟨k, hk, rfl, HBR, HT⟩ := hrel
   have hk0 : (0 : Int) ≤ (k : Int) := by omega
   by_cases hlt : k < l.length
   ·have hk1 : (k : Int) < (l.length : Int) := by omega
    have hltm : k < m.length := by have := HL.out; omega
    obtain ⟨b1, o1, hb1, hd1⟩ := text_at (HA.out.below HBR.out) hlt
    obtain ⟨b2, o2, hb2, hd2⟩ := text_at (HB.out.below HBR.out) hltm
    subst hb1
    subst hb2
    have HE := hid (fun he => take_eq_step HT.out hlt hltm he)
    have HN : Hid (¬ l[k] = m[k] → l ≠ m) := hid (fun hne e => hne (by subst e; rfl))
    generalize l[k] = x at hd1 HE HN
    generalize m[k] = y at hd2 HE HN
    by_cases hxy : x = y
    ·have s1 := str_eqb hxy
     have s2 : x.toList = y.toList := by rw [hxy]
     have HE2 := hid (HE.out hxy)
     clear HE HN hxy
     go_wp2_with fail
     go_quiet (fail)
     go_wp2_with fail
     go_roundw
     case rel => exact ⟨k + 1, by omega, by simp, hid (below_drewN HBR.out _), HE2⟩
     case measure => simp [intOf]; omega
    ·have s1 := str_neb hxy
     have s2 : ¬ x.toList = y.toList := fun h => by
      rw [h] at s1
      simp at s1
     have HE2 : Hid (decide (l = m) = false) := hid (decide_eq_false (HN.out hxy))
     clear HE HN hxy
     go_wp2_with fail
     go_quiet (fail)
     go_wp2_with fail
     go_ret
     exact ⟨by rw [HE2.out]; rfl, below_drewN HBR.out _⟩
   ·have HE2 : Hid (decide (l = m) = true) := hid (decide_eq_true (by
     have := HT.out
     rw [List.take_of_length_le (by omega), List.take_of_length_le (by have := HL.out; omega)] at this
     exact this))
    obtain rfl : k = l.length := by omega
    clear hlt
    go_wp2_with fail
    go_ret
    exact ⟨by rw [HE2.out]; rfl, HBR.out⟩
 ·have hlen : ((l.length : Int) != (m.length : Int)) = true := by simp; omega
  have hlen2 : ¬ (l.length : Int) = (m.length : Int) := by omega
  have HE2 : Hid (decide (l = m) = false) := hid (decide_eq_false (fun e => hl (by rw [e])))
  go_enter Tryz.func199, Tryz.ntmps199
  go_wp2_with fail
  go_ret
  exact ⟨by rw [HE2.out]; rfl, Below.refl _ _⟩
theorem same_any (f g : Fr) (v1 u1 v2 u2 : Value) (w : World) (h1 : Sl w v1 f.L.length 1 (f.L.map .string)) (h2 : Sl w u1 f.S.length 1 (f.S.map .string)) (h3 : Sl w v2 g.L.length 1 (g.L.map .string)) (h4 : Sl w u2 g.S.length 1 (g.S.map .string))
  (n1 : f.L.length ≤ 1000000) (n2 : f.S.length ≤ 1000000) (n3 : g.L.length ≤ 1000000) (n4 : g.S.length ≤ 1000000) :
  Calls Tryz.prog 155 #[.agg #[v1, u1], .agg #[v2, u2]] w fun e w' => e = .returned (.bool (decide (f = g))) ∧ Below w.heap.size w w' := by
 obtain ⟨L1, S1⟩ := f
 obtain ⟨L2, S2⟩ := g
 simp only at h1 h2 h3 h4 n1 n2 n3 n4
 obtain ⟨A1, hA1⟩ : ∃ A1, w.alloc (.cells #[v1, u1] 163) = A1 := ⟨_, rfl⟩
 obtain ⟨b2, hb2⟩ : ∃ b2, w.heap.size = b2 := ⟨_, rfl⟩
 obtain ⟨A2, hA2⟩ : ∃ A2, A1.alloc (.cells #[v2, u2] 163) = A2 := ⟨_, rfl⟩
 obtain ⟨b3, hb3⟩ : ∃ b3, A1.heap.size = b3 := ⟨_, rfl⟩
 have B1 : Below w.heap.size w A1 := hA1 ▸ ext_alloc _ _
 have B2 : Below A1.heap.size A1 A2 := hA2 ▸ ext_alloc _ _
 have HB := hid (B1.trans (B2.mono B1.size))
 have r1 : A1.heap[b2]? = some (.cells #[v1, u1] 163 (0, 0)) := by rw [← hA1, ← hb2]; exact heap_alloc_new _ _
 have r2 : A2.heap[b3]? = some (.cells #[v2, u2] 163 (0, 0)) := by rw [← hA2, ← hb3]; exact heap_alloc_new _ _
 have HR : Hid (∀ u, Below A2.heap.size A2 u → u.cell? ⟨b2, 0, none⟩ = some v1 ∧ u.cell? ⟨b2, 1, none⟩ = some u1 ∧ u.cell? ⟨b3, 0, none⟩ = some v2 ∧ u.cell? ⟨b3, 1, none⟩ = some u2) := hid (fun u hu => by
  have q1 := (hu.block _ (Nat.lt_of_lt_of_le (zh r1).1 B2.size)).trans ((B2.block _ (zh r1).1).trans r1)
  have q2 := (hu.block _ (zh r2).1).trans r2
  refine ⟨?_, ?_, ?_, ?_⟩
  ·rw [cell_of_row _ _ _ _ _ _ q1]; rfl
  ·rw [cell_of_row _ _ _ _ _ _ q1]; rfl
  ·rw [cell_of_row _ _ _ _ _ _ q2]; rfl
  ·rw [cell_of_row _ _ _ _ _ _ q2]; rfl)
 have HE1 := hid (fun u hu => equalt_any v1 v2 L1 L2 u (h1.below hu) (h3.below hu) n1 n3)
 have HE2 := hid (fun u hu => equalt_any u1 u2 S1 S2 u (h2.below hu) (h4.below hu) n2 n4)
 obtain ⟨y0, y1, y2, y3⟩ := HR.out A2 (Below.refl _ _)
 obtain ⟨Z, hZ⟩ : ∃ Z, decide ((⟨L1, S1⟩ : Fr) = ⟨L2, S2⟩) = Z := ⟨_, rfl⟩
 rw [hZ]
 have HZ : Hid (Z = (decide (L1 = L2) && decide (S1 = S2))) := hid (by rw [← hZ, Bool.eq_iff_iff]; simp)
 clear h1 h2 h3 h4 n1 n2 n3 n4 B1 B2 r1 r2 hZ
 by_cases hl : L1 = L2
 ·rw [decide_eq_true hl] at HE1 HZ
  clear hl
  go_enter Tryz.func155, Tryz.ntmps155
  go_wp2_with fail
  refine (HE1.out _ HB.out).mono ?_
  rintro e w1 ⟨rfl, hb1⟩
  have HB1 := hid (HB.out.trans (hb1.mono HB.out.size))
  clear y0 y1 y2 y3
  obtain ⟨y0, y1, y2, y3⟩ := HR.out w1 hb1
  clear hb1 hA1 hA2
  go_wp2_with fail
  refine (HE2.out _ HB1.out).mono ?_
  rintro e w2 ⟨rfl, hb2⟩
  have HB2 := hid (HB1.out.trans (hb2.mono HB1.out.size))
  clear hb2 y0 y1 y2 y3
  go_wp2_with fail
  go_ret
  exact ⟨by rw [HZ.out]; rfl, HB2.out⟩
 ·rw [decide_eq_false hl] at HE1 HZ
  clear hl
  go_enter Tryz.func155, Tryz.ntmps155
  go_wp2_with fail
  refine (HE1.out _ HB.out).mono ?_
  rintro e w1 ⟨rfl, hb1⟩
  have HB1 := hid (HB.out.trans (hb1.mono HB.out.size))
  clear y0 y1 y2 y3 hb1 hA1 hA2
  go_wp2_with fail
  go_ret
  exact ⟨by rw [HZ.out]; rfl, HB1.out⟩
theorem clonet_any (va : Value) (l : List ByteArray) (w : World) (ha : Sl w va l.length 1 (l.map .string)) (hn : l.length ≤ 2000000) :
  Calls Tryz.prog 201 #[va] w fun e w' => ∃ v', e = .returned v' ∧ Out w w' 9 1 v' l.length (l.map .string) := by
 obtain ⟨a, c, rfl⟩ := ha.val
 cases a with
 | none =>
  have hl0 : l = [] := by
   rcases l with _ | ⟨x, r⟩
   ·rfl
   ·obtain ⟨_, _, h, _⟩ := text_at ha (k := 0) (by simp); cases h
  subst hl0
  refine (Tryz.slices_Clone_string_nil _ c w).mono ?_
  rintro e w' ⟨rfl, rfl⟩
  exact ⟨_, rfl, Out.nil _ _ _⟩
 | some a =>
  by_cases h0 : 0 < l.length
  ·obtain ⟨b, off, hb, _⟩ := text_at ha h0
   obtain rfl := Option.some.inj hb
   refine (Tryz.slices_Clone_string b off l.length c l w (Nat.le_refl _) (by omega) (fun j hj => ?_)).mono ?_
   ·obtain ⟨b2, off2, h1, h2⟩ := text_at ha hj
    simp only [Option.some.injEq, Addr.mk.injEq] at h1
    obtain ⟨rfl, rfl, _⟩ := h1
    rw [h2]; simp [List.getD, hj]
   ·rintro e w' ⟨v', rfl, ho, _, hb⟩
    rw [List.take_length] at ho
    exact ⟨v', rfl, ho, hb⟩
  ·have : l = [] := List.eq_nil_of_length_eq_zero (by omega)
   subst this
   refine (Tryz.slices_Clone_string_zero a c w).mono ?_
   rintro e w' ⟨v', rfl, ho, _, hb⟩
   exact ⟨v', rfl, ho, hb⟩
def unf2 : List PanicEntry := [{ v := .iface 256 (.agg #[]), recovered := true }]
theorem after_catch (pf pb : Nat) (y1 y2 y3 : Value) (w : World) (hf : w.heap[pf]? = some (.cells #[y1, y2] 163 (0, 0))) (hb : w.heap[pb]? = some (.cells #[y3] 4 (0, 0))) (hne : pf ≠ pb) :
  CallsD Tryz.prog 200 #[.pointer (some ⟨pf, 0, none⟩), .pointer (some ⟨pb, 0, none⟩)] (.panicking unf) w fun e u' w' =>
   e = .returned (.tuple #[]) ∧ u' = .panicking unf2 ∧ w'.heap[pf]? = some (.cells #[.slice none 0 0, .slice none 0 0] 163 (0, 0)) ∧ w'.heap[pb]? = some (.cells #[.bool false] 4 (0, 0)) ∧ Keeps (fun q => q = pf ∨ q = pb) w w' := by
 have hta : ∀ w, (Instr.typeAssert (.iface 256 (.agg #[])) 20 256 true).run Tryz.prog w = .ok (.tuple #[.agg #[], .bool true]) w := fun w => by kernel_rfl
 refine callsD_of_wpS Tryz.func200 rfl fun c₀ cs hu => ?_
 unfold unf at hu
 have HF := hid hf
 have HB := hid hb
 have HNE := hid hne
 clear hf hb hne
 apply wpS_seq
 apply wpS_region
 simp [wpOpsS, go_sem, recoverD, hu, Tryz.ntmps200, Exit.thenS]
 refine wpS_of_wp ?_
 show Code.wp _ _ _ { tmps := #[.pointer (some ⟨pf, 0, none⟩), .pointer (some ⟨pb, 0, none⟩), .iface 256 (.agg #[]), undef, undef, .iface 256 (.agg #[]), undef, undef, undef, undef, undef, undef, undef, undef, undef, undef, undef], defers := [] } w
 obtain ⟨W1, hW1⟩ : ∃ W1, w.alloc (.cells #[] 256) = W1 := ⟨_, rfl⟩
 have hB1 : Below w.heap.size w W1 := hW1 ▸ ext_alloc _ _
 have r1 : W1.heap[pf]? = some (.cells #[y1, y2] 163 (0, 0)) := (hB1.block _ (zh HF.out).1).trans HF.out
 have r2 : W1.heap[pb]? = some (.cells #[y3] 4 (0, 0)) := (hB1.block _ (zh HB.out).1).trans HB.out
 have c1 : W1.cell? ⟨pf, 0, none⟩ = some y1 := by rw [cell_of_row _ _ _ _ _ _ r1]; rfl
 have c2 : W1.cell? ⟨pf, 1, none⟩ = some y2 := by rw [cell_of_row _ _ _ _ _ _ r1]; rfl
 have c3 : W1.cell? ⟨pb, 0, none⟩ = some y3 := by rw [cell_of_row _ _ _ _ _ _ r2]; rfl
 have f1 : W1.frozen? ⟨pf, 0, none⟩ = false := frozen_of_row _ _ _ _ _ r1
 have f2 : W1.frozen? ⟨pf, 1, none⟩ = false := frozen_of_row _ _ _ _ _ r1
 have f3 : W1.frozen? ⟨pb, 0, none⟩ = false := frozen_of_row _ _ _ _ _ r2
 have HEND : Hid ((((W1.setCell ⟨pf, 0, none⟩ (.slice none 0 0)).setCell ⟨pf, 1, none⟩ (.slice none 0 0)).setCell ⟨pb, 0, none⟩ (.bool false)).heap[pf]? = some (.cells #[.slice none 0 0, .slice none 0 0] 163 (0, 0)) ∧ (((W1.setCell ⟨pf, 0, none⟩ (.slice none 0 0)).setCell ⟨pf, 1, none⟩ (.slice none 0 0)).setCell ⟨pb, 0, none⟩ (.bool false)).heap[pb]? = some (.cells #[.bool false] 4 (0, 0)) ∧ Keeps (fun q => q = pf ∨ q = pb) w (((W1.setCell ⟨pf, 0, none⟩ (.slice none 0 0)).setCell ⟨pf, 1, none⟩ (.slice none 0 0)).setCell ⟨pb, 0, none⟩ (.bool false))) := hid (by
  have h1 := heap_set r1 0 (.slice none 0 0)
  have h2 := heap_set h1 1 (.slice none 0 0)
  have h3 : ((W1.setCell ⟨pf, 0, none⟩ (.slice none 0 0)).setCell ⟨pf, 1, none⟩ (.slice none 0 0)).heap[pb]? = some (.cells #[y3] 4 (0, 0)) := by
   rw [setCell_other HNE.out.symm, setCell_other HNE.out.symm]; exact r2
  refine ⟨?_, heap_set h3 0 (.bool false), ?_⟩
  ·rw [setCell_other HNE.out]; exact h2
  ·exact (Keeps.of_below hB1).trans (((Keeps.set W1 pf 0 (.slice none 0 0)).mono fun q _ e => .inl e).trans (((Keeps.set (W1.setCell ⟨pf, 0, none⟩ (.slice none 0 0)) pf 1 (.slice none 0 0)).mono fun q _ e => .inl e).trans ((Keeps.set ((W1.setCell ⟨pf, 0, none⟩ (.slice none 0 0)).setCell ⟨pf, 1, none⟩ (.slice none 0 0)) pb 0 (.bool false)).mono fun q _ e => .inr e))))
 have hne : pf ≠ pb := HNE.out
 have hne2 : pb ≠ pf := HNE.out.symm
 clear hB1 r1 r2
 go_wp2_with fail
 exact ⟨rfl, _, rfl, _, by simp [results, Tryz.results200, go_sem], rfl, rfl, HEND.out.1, HEND.out.2.1, HEND.out.2.2⟩
theorem after_idle (pf pb : Nat) (w : World) :
  CallsD Tryz.prog 200 #[.pointer (some ⟨pf, 0, none⟩), .pointer (some ⟨pb, 0, none⟩)] .returning w fun e u' w' =>
   e = .returned (.tuple #[]) ∧ u' = .returning ∧ w' = w := by
 refine callsD_of_wpS Tryz.func200 rfl fun c₀ cs hu => ?_
 apply wpS_seq
 apply wpS_region
 simp [wpOpsS, go_sem, recoverD, hu, Tryz.ntmps200, Exit.thenS]
 refine wpS_of_wp ?_
 show Code.wp _ _ _ { tmps := #[.pointer (some ⟨pf, 0, none⟩), .pointer (some ⟨pb, 0, none⟩), .nilIface, undef, undef, .nilIface, undef, undef, undef, undef, undef, undef, undef, undef, undef, undef, undef], defers := [] } w
 go_wp2
 exact ⟨rfl, .returning, by cases c₀; cases hu; rfl, _, by simp [results, Tryz.results200, go_sem], rfl, rfl, rfl⟩
end Go.Proofs.YtloonnfelgokmaaGreatDoor.worlds
namespace Go.Proofs.YtloonnfelgokmaaGreatDoor.grow
def calm (Q : Exit → Act → World → Prop) : Exit → Act → World → Prop
 | .panic _, _, _ => False
 | e, a, w => Q e a w
theorem calm_le {Q : Exit → Act → World → Prop} : ∀ e a w, calm Q e a w → Q e a w := fun e a w h => by
 cases e <;> first | exact h | exact h.elim
theorem wp_calm {P : Program} {c : Code} {Q : Exit → Act → World → Prop} {a : Act} {w : World} (h : c.wp P (calm Q) a w) : c.wp P Q a w := Code.wp_mono calm_le h
theorem c_end_calm {P : Program} {ops : Array Oper} {Q : Exit → Act → World → Prop} {C : World → Prop} {n : Nat} {listed : Array Bool} {a : Act} {w : World} (hr : Region.ready .any ops listed = []) (h : Q .normal a w) : wpAnyC P .any ops (calm Q) C n listed a w := c_end hr h
end Go.Proofs.YtloonnfelgokmaaGreatDoor.grow
namespace Go.Proofs.YtloonnfelgokmaaGreatDoor.worlds
open Go.RowKit lib maps classes errs descs names grow keep ins
theorem after_caught {tmps : Array Value} {w : World} {b10 b11 : Nat} {y1 y2 y3 : Value} {Q : Ending → World → Prop} (h10 : tmps.getD 10 undef = .pointer (some ⟨b10, 0, none⟩)) (h11 : tmps.getD 11 undef = .pointer (some ⟨b11, 0, none⟩))
  (r10 : w.heap[b10]? = some (.cells #[y1, y2] 163 (0, 0))) (r11 : w.heap[b11]? = some (.cells #[y3] 4 (0, 0))) (hne : b10 ≠ b11) (hQ : ∀ w', Keeps (fun q => q = b10 ∨ q = b11) w w' → Q (.returned (.tuple #[.agg #[.slice none 0 0, .slice none 0 0], .bool false])) w') :
  Leaves Tryz.prog Tryz.f157 tmps Q [{ target := .fn (.func 200) #[.pointer (some ⟨b10, 0, none⟩), .pointer (some ⟨b11, 0, none⟩)], args := #[] }] (.panicking unf) w := by
 refine leaves_cons (f := 200) (args := #[.pointer (some ⟨b10, 0, none⟩), .pointer (some ⟨b11, 0, none⟩)]) (by simp) (by simp [go_sem]) ?_
 refine (after_catch b10 b11 _ _ _ w r10 r11 hne).mono ?_
 rintro e u' w9 ⟨rfl, rfl, q10, q11, k9⟩
 have h10' : tmps[10]?.getD undef = .pointer (some ⟨b10, 0, none⟩) := by simpa using h10
 have h11' : tmps[11]?.getD undef = .pointer (some ⟨b11, 0, none⟩) := by simpa using h11
 have c0 : w9.cell? ⟨b10, 0, none⟩ = some (.slice none 0 0) := by rw [cell_of_row _ _ _ _ _ _ q10]; rfl
 have c1 : w9.cell? ⟨b10, 1, none⟩ = some (.slice none 0 0) := by rw [cell_of_row _ _ _ _ _ _ q10]; rfl
 have c2 : w9.cell? ⟨b11, 0, none⟩ = some (.bool false) := by rw [cell_of_row _ _ _ _ _ _ q11]; rfl
 refine ⟨.tuple #[.agg #[.slice none 0 0, .slice none 0 0], .bool false], ?_, hQ _ k9⟩
 simp [results, Tryz.results157, h10', h11', go_sem, c0, c1, c2]
theorem after_told {tmps : Array Value} {w : World} {b10 b11 : Nat} {vL vS : Value} {Q : Ending → World → Prop} (h10 : tmps.getD 10 undef = .pointer (some ⟨b10, 0, none⟩)) (h11 : tmps.getD 11 undef = .pointer (some ⟨b11, 0, none⟩))
  (r10 : w.heap[b10]? = some (.cells #[vL, vS] 163 (0, 0))) (r11 : w.heap[b11]? = some (.cells #[.bool true] 4 (0, 0))) (hQ : Q (.returned (.tuple #[.agg #[vL, vS], .bool true])) w) :
  Leaves Tryz.prog Tryz.f157 tmps Q [{ target := .fn (.func 200) #[.pointer (some ⟨b10, 0, none⟩), .pointer (some ⟨b11, 0, none⟩)], args := #[] }] .returning w := by
 refine leaves_cons (f := 200) (args := #[.pointer (some ⟨b10, 0, none⟩), .pointer (some ⟨b11, 0, none⟩)]) (by simp) (by simp [go_sem]) ?_
 refine (after_idle b10 b11 w).mono ?_
 rintro e u' w9 ⟨rfl, rfl, rfl⟩
 have h10' : tmps[10]?.getD undef = .pointer (some ⟨b10, 0, none⟩) := by simpa using h10
 have h11' : tmps[11]?.getD undef = .pointer (some ⟨b11, 0, none⟩) := by simpa using h11
 have c0 : w9.cell? ⟨b10, 0, none⟩ = some vL := by rw [cell_of_row _ _ _ _ _ _ r10]; rfl
 have c1 : w9.cell? ⟨b10, 1, none⟩ = some vS := by rw [cell_of_row _ _ _ _ _ _ r10]; rfl
 have c2 : w9.cell? ⟨b11, 0, none⟩ = some (.bool true) := by rw [cell_of_row _ _ _ _ _ _ r11]; rfl
 refine ⟨.tuple #[.agg #[vL, vS], .bool true], ?_, hQ⟩
 simp [results, Tryz.results157, h10', h11', go_sem, c0, c1, c2]
theorem after_no {w w' : World} {Z : Option Fr} (hr : Z = none) (hb : Below w.heap.size w w') : AfterBy w Z (.returned (.tuple #[.agg #[.slice none 0 0, .slice none 0 0], .bool false])) w' := by subst hr; exact ⟨hb, rfl⟩
theorem after_yes {w w' : World} {Z : Option Fr} {L S : List ByteArray} {vL vS : Value} (hr : Z = some ⟨L, S⟩) (hb : Below w.heap.size w w') (h1 : Out w w' 9 1 vL L.length (L.map .string)) (h2 : Out w w' 9 1 vS S.length (S.map .string)) : AfterBy w Z (.returned (.tuple #[.agg #[vL, vS], .bool true])) w' := by subst hr; exact ⟨hb, vL, vS, rfl, h1, h2⟩
theorem plain_right {W : WL} {fr gv : ByteArray} {x : I} {f g : Fr} (hx : insFault x = 0) (hf : RightF W f) (h : plainF W fr gv x f = some g) : RightF W g := by
 unfold plainF at h
 split at h
 ·rw [← Option.some.inj h]; exact hf
 ·exact (after_right hx hf h).1
theorem fafter_any (W : WL) (b : Nat) (fr gv : ByteArray) (x : I) (L S : List ByteArray) (vL vS : Value) (w : World) (hW : Wd w b W) (hF : Flat W) (hx : insFault x = 0) (hg : gv = { data := #[86] } ∨ isTy gv.data.toList = true)
  (hL : Sl w vL L.length 1 (L.map .string)) (hS : Sl w vS S.length 1 (S.map .string)) (hr : RightF W ⟨L, S⟩) (hl8 : L.length ≤ 8) :
  Calls Tryz.prog 157 #[.map (some b), .string fr, .string gv, .agg x.cells.toArray, .agg #[vL, vS]] w (AfterBy w (afterF W fr gv x ⟨L, S⟩)) := by
 obtain ⟨op, a, b2, t, c, n⟩ := x
 show Calls Tryz.prog 157 #[.map (some b), .string fr, .string gv, .agg #[.int .i64 op, .int .i64 a, .int .i64 b2, .string t, .string c, .string n], .agg #[vL, vS]] w _
 obtain ⟨Z, hZ⟩ : ∃ Z, afterF W fr gv ⟨op, a, b2, t, c, n⟩ ⟨L, S⟩ = Z := ⟨_, rfl⟩
 rw [hZ]
 have HZ := hid ((after_both W fr gv ⟨op, a, b2, t, c, n⟩ ⟨L, S⟩).symm.trans hZ)
 obtain ⟨b8, hb8⟩ : ∃ b8, w.heap.size = b8 := ⟨_, rfl⟩
 obtain ⟨A1, hA1⟩ : ∃ A1, w.alloc (.cells #[.int .i64 op, .int .i64 a, .int .i64 b2, .string t, .string c, .string n] 56) = A1 := ⟨_, rfl⟩
 obtain ⟨b9, hs1⟩ : ∃ b9, A1.heap.size = b9 := ⟨_, rfl⟩
 obtain ⟨A2, hA2⟩ : ∃ A2, A1.alloc (.cells #[vL, vS] 163) = A2 := ⟨_, rfl⟩
 obtain ⟨b10, hs2⟩ : ∃ b10, A2.heap.size = b10 := ⟨_, rfl⟩
 obtain ⟨A3, hA3⟩ : ∃ A3, A2.alloc (.cells #[.slice none 0 0, .slice none 0 0] 163) = A3 := ⟨_, rfl⟩
 obtain ⟨b11, hs3⟩ : ∃ b11, A3.heap.size = b11 := ⟨_, rfl⟩
 obtain ⟨A4, hA4⟩ : ∃ A4, A3.alloc (.cells #[.bool false] 4) = A4 := ⟨_, rfl⟩
 have B1 : Below w.heap.size w A1 := hA1 ▸ ext_alloc _ _
 have B2 : Below A1.heap.size A1 A2 := hA2 ▸ ext_alloc _ _
 have B3 : Below A2.heap.size A2 A3 := hA3 ▸ ext_alloc _ _
 have B4 : Below A3.heap.size A3 A4 := hA4 ▸ ext_alloc _ _
 have BA := B1.trans ((B2.trans ((B3.trans (B4.mono B3.size)).mono B2.size)).mono B1.size)
 have r8 : A1.heap[b8]? = some (.cells #[.int .i64 op, .int .i64 a, .int .i64 b2, .string t, .string c, .string n] 56 (0, 0)) := by rw [← hA1, ← hb8]; exact heap_alloc_new _ _
 have r9 : A2.heap[b9]? = some (.cells #[vL, vS] 163 (0, 0)) := by rw [← hA2, ← hs1]; exact heap_alloc_new _ _
 have r10 : A3.heap[b10]? = some (.cells #[.slice none 0 0, .slice none 0 0] 163 (0, 0)) := by rw [← hA3, ← hs2]; exact heap_alloc_new _ _
 have r11 : A4.heap[b11]? = some (.cells #[.bool false] 4 (0, 0)) := by rw [← hA4, ← hs3]; exact heap_alloc_new _ _
 have HAR : Hid (AR A4 b8 b10 b11 ⟨op, a, b2, t, c, n⟩) := hid ⟨((B2.trans ((B3.trans (B4.mono B3.size)).mono B2.size)).block _ (zh r8).1).trans r8, (B4.block _ (zh r10).1).trans r10, r11⟩
 have HR9 : Hid (A4.heap[b9]? = some (.cells #[vL, vS] 163 (0, 0))) := hid (((B3.trans (B4.mono B3.size)).block _ (zh r9).1).trans r9)
 have HBA := hid BA
 have HNE : Hid (w.heap.size ≤ b8 ∧ b8 < b9 ∧ b9 < b10 ∧ b10 < b11 ∧ b11 < A4.heap.size) := hid (by
  have := (zh r8).1
  have := (zh r9).1
  have := (zh r10).1
  have := (zh r11).1
  exact ⟨by omega, by omega, by omega, by omega, by omega⟩)
 have HW := hid hW; have HF := hid hF; have HX := hid hx; have HG := hid hg; have HL := hid hL; have HS := hid hS; have HR := hid hr; have HL8 := hid hl8
 have HLS : Hid (S.length ≤ 8) := hid hr.S.len
 clear hZ B1 B2 B3 B4 BA r8 r9 r10 r11 hW hF hx hg hL hS hr hl8
 have hmf : ∀ (fn : Fn) (first cap : Array Value) (w : World), (Instr.makeFunc fn first cap).run Tryz.prog w = .ok (.func fn first cap) w := fun _ _ _ _ => rfl
 go_enter_defers Tryz.func157, Tryz.ntmps157
 go_wp2_with fail
 have z0 : (World.drew A4).cell? ⟨b9, 0, none⟩ = some vL := by
  show A4.cell? ⟨b9, 0, none⟩ = _
  rw [cell_of_row _ _ _ _ _ _ HR9.out]; rfl
 have z1 : (World.drew A4).cell? ⟨b9, 1, none⟩ = some vS := by
  show A4.cell? ⟨b9, 1, none⟩ = _
  rw [cell_of_row _ _ _ _ _ _ HR9.out]; rfl
 have HBD : Hid (Below A4.heap.size A4 (World.drew A4)) := hid (Below.refl _ _).drew
 obtain ⟨WD, hwd⟩ : ∃ WD, World.drew A4 = WD := ⟨_, rfl⟩
 rw [hwd] at z0 z1 HBD
 clear hA1 hA2 hA3 hA4 hs1 hs2 hs3
 have HRD : Hid (WD.heap[b9]? = some (.cells #[vL, vS] 163 (0, 0))) := hid ((HBD.out.block _ (zh HR9.out).1).trans HR9.out)
 refine wp_calm ?_
 refine wp_region_c (fun u => u.heap[b9]? = some (.cells #[vL, vS] 163 (0, 0))) (by kernel_rfl) ?_
 show wpAnyC _ _ _ _ _ _ _ _ (World.drew _)
 rw [hwd]
 refine c_take 0 _ _ rfl (by kernel_rfl) (by kernel_rfl) (by kernel_rfl) rfl (fun _ _ _ h => h) HRD.out (fun u hu => by go_simp; rfl) ?_
 simp only [zg1, zg2, zg3, Act.put, zg4, zg5, zg6]
 refine c_take 1 _ _ rfl (by kernel_rfl) (by kernel_rfl) (by kernel_rfl) rfl (fun _ _ _ h => h) HRD.out (fun u hu => by go_simp; rfl) ?_
 simp only [zg1, zg2, zg3, Act.put, zg4, zg5, zg6]
 refine c_take 2 _ _ rfl (by kernel_rfl) (by kernel_rfl) (by kernel_rfl) rfl (fun _ _ _ h => h) HRD.out (fun u hu => by go_simp; rfl) ?_
 simp only [zg1, zg2, zg3, Act.put, zg4, zg5, zg6]
 refine c_take 3 _ _ rfl (by kernel_rfl) (by kernel_rfl) (by kernel_rfl) rfl (fun _ _ _ h => h) HRD.out (fun u hu => by go_simp; rfl) ?_
 simp only [zg1, zg2, zg3, Act.put, zg4, zg5, zg6]
 refine c_take 4 _ _ rfl (by kernel_rfl) (by kernel_rfl) (by kernel_rfl) rfl (fun _ _ _ h => h) HRD.out (fun u hu => by have q : u.cell? ⟨b9, 0, none⟩ = some vL := (by rw [cell_of_row _ _ _ _ _ _ hu]; try rfl); go_simp; rfl) ?_
 simp only [zg1, zg2, zg3, Act.put, zg4, zg5, zg6]
 refine c_take 6 _ _ rfl (by kernel_rfl) (by kernel_rfl) (by kernel_rfl) rfl (fun _ _ _ h => h) HRD.out (fun u hu => by go_simp; rfl) ?_
 simp only [zg1, zg2, zg3, Act.put, zg4, zg5, zg6]
 refine c_take 7 _ _ rfl (by kernel_rfl) (by kernel_rfl) (by kernel_rfl) rfl (fun _ _ _ h => h) HRD.out (fun u hu => by have q : u.cell? ⟨b9, 1, none⟩ = some vS := (by rw [cell_of_row _ _ _ _ _ _ hu]; try rfl); go_simp; rfl) ?_
 simp only [zg1, zg2, zg3, Act.put, zg4, zg5, zg6]
 refine c_only 5 _ rfl (by kernel_rfl) ?_
 go_simp
 refine (clonet_any vL L _ (HL.out.below (HBA.out.trans (HBD.out.mono HBA.out.size))) (by have := HL8.out; omega)).mono ?_
 rintro e w2 ⟨v1, rfl, ho1⟩
 obtain ⟨a1, c1, hv1⟩ := ho1.sl.val
 subst hv1
 have HO1 := hid ho1
 refine ⟨(ho1.below.block _ (zh HRD.out).1).trans HRD.out, ?_⟩
 have HRD2 := hid ((ho1.below.block _ (zh HRD.out).1).trans HRD.out)
 clear ho1
 try simp only [zg1, zg2, zg3, Act.put, zg4, zg5, zg6]
 refine c_only 8 _ rfl (by kernel_rfl) ?_
 go_simp
 refine (clonet_any vS S _ ((HS.out.below (HBA.out.trans (HBD.out.mono HBA.out.size))).below HO1.out.below) (by have := HLS.out; omega)).mono ?_
 rintro e w3 ⟨v2, rfl, ho2⟩
 obtain ⟨a2, c2, hv2⟩ := ho2.sl.val
 subst hv2
 have HO2 := hid ho2
 refine ⟨(ho2.below.block _ (zh HRD2.out).1).trans HRD2.out, ?_⟩
 have HRB := hid ((ho2.below.block _ (zh HRD2.out).1).trans HRD2.out)
 clear ho2
 try simp only [zg1, zg2, zg3, Act.put, zg4, zg5, zg6]
 refine c_take 9 _ _ rfl (by kernel_rfl) (by kernel_rfl) (by kernel_rfl) rfl (fun _ _ _ h => h) HRB.out (fun u hu => by go_simp; rfl) ?_
 simp only [zg1, zg2, zg3, Act.put, zg4, zg5, zg6]
 refine c_take 10 _ _ rfl (by kernel_rfl) (by kernel_rfl) (by kernel_rfl) rfl (fun _ _ _ h => h) HRB.out (fun u hu => by go_simp; rfl) ?_
 simp only [zg1, zg2, zg3, Act.put, zg4, zg5, zg6]
 refine c_only 11 _ rfl (by kernel_rfl) ?_
 go_simp
 refine ⟨((ext_alloc _ _).block _ (zh HRB.out).1).trans HRB.out, ?_⟩
 try simp only [zg1, zg2, zg3, Act.put, zg4, zg5, zg6]
 refine c_take 12 _ _ rfl (by kernel_rfl) (by kernel_rfl) (by kernel_rfl) rfl (fun _ _ _ h => h) (((ext_alloc _ _).block _ (zh HRB.out).1).trans HRB.out) (fun u hu => by go_simp; rfl) ?_
 simp only [zg1, zg2, zg3, Act.put, zg4, zg5, zg6]
 refine c_end_calm (by kernel_rfl) ?_
 obtain ⟨B, hB⟩ : ∃ B, w3.heap.size = B := ⟨_, rfl⟩
 obtain ⟨W5, hW5⟩ : ∃ W5, w3.alloc (.cells #[.map (some b), .string fr, .string gv, .slice a1 L.length c1, .slice a2 S.length c2] 261) = W5 := ⟨_, rfl⟩
 have HE5 : Hid (Below w3.heap.size w3 W5) := hid (hW5 ▸ ext_alloc _ _)
 have HD1 : Hid (Below w.heap.size w WD) := hid (HBA.out.trans (HBD.out.mono HBA.out.size))
 have HD2 : Hid (Below w.heap.size w w2) := hid (HD1.out.trans (HO1.out.below.mono HD1.out.size))
 have HST : Hid (ST w W5 B b W fr gv (.slice a1 L.length c1) (.slice a2 S.length c2) L S) := hid (by
  refine ⟨by rw [← hW5, ← hB]; exact heap_alloc_new _ _, Out.since HD1.out ((HO1.out.later HO2.out.below).later HE5.out), Out.since HD2.out (HO2.out.later HE5.out), fun k h1 h2 => ?_, ?_, fun e => ?_, fun e => ?_, HW.out, HL8.out, HLS.out⟩
  ·have := (HO2.out.own.lt k h1).1
   have := (HO1.out.own.lt k h2).2
   omega
  ·rw [← hB]; exact Nat.le_trans HD2.out.size HO2.out.below.size
  ·have := (HO1.out.own.lt B e).2
   have := HO2.out.below.size
   omega
  ·have := (HO2.out.own.lt B e).2
   omega)
 have HA5 : Hid (AR W5 b8 b10 b11 ⟨op, a, b2, t, c, n⟩) := hid (HAR.out.later (HBD.out.trans ((HO1.out.below.trans ((HO2.out.below.trans (HE5.out.mono HO2.out.below.size)).mono HO1.out.below.size)).mono HBD.out.size)))
 have HNB : Hid (b8 ≠ B ∧ b10 ≠ B ∧ b11 ≠ B) := hid (by
  have h0 := HNE.out
  have h1 := HBD.out.size
  have h2 := HO1.out.below.size
  have h3 := HO2.out.below.size
  exact ⟨by omega, by omega, by omega⟩)
 have HWB : Hid (∀ q, q = b10 ∨ q = b11 → w.heap.size ≤ q) := hid (fun q hq => by
  have h0 := HNE.out
  rcases hq with rfl | rfl <;> omega)
 obtain ⟨y0, y1, y2, y3, y4, y5⟩ := HA5.out.at_
 clear HAR HR9 HBA HBD HRD HRD2 HRB HO1 HO2 HE5 HD1 HD2 z0 z1 hwd
 go_wp2_with fail
 clear hW5 hB
 refine (splain_any ⟨op, a, b2, t, c, n⟩ HX.out HG.out HST.out HR.out).mono ?_
 rintro e w6 ⟨ho6, h6⟩
 have HA6 := hid (HA5.out.oth ho6 HNB.out.1 HNB.out.2.1 HNB.out.2.2)
 clear y0 y1 y2 y3 y4 y5 ho6
 cases hp : plainF W fr gv ⟨op, a, b2, t, c, n⟩ ⟨L, S⟩ with
 | none =>
  rw [hp] at h6
  obtain ⟨rfl, hb6⟩ := h6
  exact after_caught (b10 := b10) (b11 := b11) rfl rfl HA6.out.r10 HA6.out.r11 (by have := HNE.out; omega) fun w' hk => after_no (by rw [← HZ.out, hp]; rfl) (hk.below hb6 hb6.size HWB.out)
 | some g =>
  obtain ⟨L1, S1⟩ := g
  rw [hp] at h6
  obtain ⟨rfl, vL1, vS1, hs6⟩ := h6
  have HST6 := hid hs6
  have HR6 := hid (plain_right HX.out HR.out hp)
  have HZ6 : Hid (thingsF W fr gv ⟨op, a, b2, t, c, n⟩ ⟨L1, S1⟩ = Z) := hid (by rw [← HZ.out, hp]; rfl)
  obtain ⟨y0, y1, y2, y3, y4, y5⟩ := HA6.out.at_
  clear hs6 hp HZ
  go_wp2_with fail
  refine (sthings_any ⟨op, a, b2, t, c, n⟩ HX.out HF.out HST6.out HR6.out.S).mono ?_
  rintro e w7 ⟨ho7, h7⟩
  have HA7 := hid (HA6.out.oth ho7 HNB.out.1 HNB.out.2.1 HNB.out.2.2)
  clear y0 y1 y2 y3 y4 y5 ho7
  cases hp : thingsF W fr gv ⟨op, a, b2, t, c, n⟩ ⟨L1, S1⟩ with
  | none =>
   rw [hp] at h7
   obtain ⟨rfl, hb7⟩ := h7
   exact after_caught (b10 := b10) (b11 := b11) rfl rfl HA7.out.r10 HA7.out.r11 (by have := HNE.out; omega) fun w' hk => after_no (by rw [← HZ6.out, hp]) (hk.below hb7 hb7.size HWB.out)
  | some g =>
   obtain ⟨L2, S2⟩ := g
   rw [hp] at h7
   obtain ⟨rfl, vL2, vS2, hs7⟩ := h7
   have HST7 := hid hs7
   have HZ7 : Hid (Z = some ⟨L2, S2⟩) := hid (by rw [← HZ6.out, hp])
   obtain ⟨x0, x1, x2, x3, x4⟩ := hs7.cells
   have c0 : w7.cell? ⟨b10, 0, none⟩ = some (.slice none 0 0) := by rw [cell_of_row _ _ _ _ _ _ HA7.out.r10]; rfl
   have c1 : w7.cell? ⟨b10, 1, none⟩ = some (.slice none 0 0) := by rw [cell_of_row _ _ _ _ _ _ HA7.out.r10]; rfl
   have c2 : w7.cell? ⟨b11, 0, none⟩ = some (.bool false) := by rw [cell_of_row _ _ _ _ _ _ HA7.out.r11]; rfl
   have f0 : w7.frozen? ⟨b10, 0, none⟩ = false := frozen_of_row _ _ _ _ _ HA7.out.r10
   have f1 : w7.frozen? ⟨b10, 1, none⟩ = false := frozen_of_row _ _ _ _ _ HA7.out.r10
   have f2 : w7.frozen? ⟨b11, 0, none⟩ = false := frozen_of_row _ _ _ _ _ HA7.out.r11
   have hne : b10 ≠ b11 := by have := HNE.out; omega
   have hne2 : b11 ≠ b10 := by have := HNE.out; omega
   obtain ⟨aL, cL, hv1⟩ := hs7.oL.sl.val
   obtain ⟨aS, cS, hv2⟩ := hs7.oS.sl.val
   subst hv1
   subst hv2
   have HEND : Hid ((((w7.setCell ⟨b10, 0, none⟩ (.slice aL L2.length cL)).setCell ⟨b10, 1, none⟩ (.slice aS S2.length cS)).setCell ⟨b11, 0, none⟩ (.bool true)).heap[b10]? = some (.cells #[.slice aL L2.length cL, .slice aS S2.length cS] 163 (0, 0)) ∧ (((w7.setCell ⟨b10, 0, none⟩ (.slice aL L2.length cL)).setCell ⟨b10, 1, none⟩ (.slice aS S2.length cS)).setCell ⟨b11, 0, none⟩ (.bool true)).heap[b11]? = some (.cells #[.bool true] 4 (0, 0)) ∧ AfterBy w Z (.returned (.tuple #[.agg #[.slice aL L2.length cL, .slice aS S2.length cS], .bool true])) (((w7.setCell ⟨b10, 0, none⟩ (.slice aL L2.length cL)).setCell ⟨b10, 1, none⟩ (.slice aS S2.length cS)).setCell ⟨b11, 0, none⟩ (.bool true))) := hid (by
    have r0 := HA7.out.r10
    have r1 := HA7.out.r11
    have h1 := heap_set r0 0 (.slice aL L2.length cL)
    have h2 := heap_set h1 1 (.slice aS S2.length cS)
    have h3 : ((w7.setCell ⟨b10, 0, none⟩ (.slice aL L2.length cL)).setCell ⟨b10, 1, none⟩ (.slice aS S2.length cS)).heap[b11]? = some (.cells #[.bool false] 4 (0, 0)) := by
     rw [setCell_other hne2, setCell_other hne2]; exact r1
    have l1 := HWB.out b10 (.inl rfl)
    have l2 := HWB.out b11 (.inr rfl)
    refine ⟨by rw [setCell_other hne]; exact h2, heap_set h3 0 (.bool true), after_yes HZ7.out ?_ ?_ ?_⟩
    ·exact ((hs7.below.setCell l1 _).setCell l1 _).setCell l2 _
    ·exact out_put_other (out_put_other (out_put_other hs7.oL r0 (by decide) l1) h1 (by decide) l1) h3 (by decide) l2
    ·exact out_put_other (out_put_other (out_put_other hs7.oS r0 (by decide) l1) h1 (by decide) l1) h3 (by decide) l2)
   clear hs7 hp
   go_wp2_with fail
   exact after_told (b10 := b10) (b11 := b11) rfl rfl HEND.out.1 HEND.out.2.1 HEND.out.2.2
def joinTo (W : WL) (l m : List ByteArray) : List ByteArray := (l.zip m).map fun p => bs (joinK W p.1.data.toList p.2.data.toList)
theorem joinTo_len (W : WL) {l m : List ByteArray} (h : l.length = m.length) : (joinTo W l m).length = l.length := by unfold joinTo; rw [List.length_map, List.length_zip]; omega
theorem joinTo_step (W : WL) {l m : List ByteArray} {k : Nat} (h1 : k < l.length) (h2 : k < m.length) : (joinTo W l m).take (k + 1) = (joinTo W l m).take k ++ [bs (joinK W l[k].data.toList m[k].data.toList)] := by
 have h : k < (joinTo W l m).length := by unfold joinTo; rw [List.length_map, List.length_zip]; omega
 rw [List.take_succ_eq_append_getElem h]
 congr 2
 simp [joinTo]
theorem nil_own {w w' : World} (hb : Below w.heap.size w w') (e : TypeId) (size : Nat) : Out w w' e size (.slice none 0 0) 0 [] := ⟨World.ownsRow_nil _ _ _ _, hb⟩
theorem text_atn {w : World} {a : Option Addr} {n c : Nat} {l : List ByteArray} (hl : l.length = n) (h : Sl w (.slice a n c) n 1 (l.map .string)) {k : Nat} (hk : k < n) :
  ∃ b off, a = some ⟨b, off, none⟩ ∧ w.cell? ⟨b, off + k, none⟩ = some (.string (l[k]'(by omega))) := by
 subst hl
 exact text_at h hk
structure BO (w0 w : World) (b4 b5 b6 b8 : Nat) (v1 u1 v2 u2 vL vS : Value) (M N : List ByteArray) : Prop where
 r4 : w.heap[b4]? = some (.cells #[v1, u1] 163 (0, 0))
 r5 : w.heap[b5]? = some (.cells #[v2, u2] 163 (0, 0))
 r6 : w.heap[b6]? = some (.cells #[.slice none 0 0, .slice none 0 0] 163 (0, 0))
 r8 : w.heap[b8]? = some (.cells #[vL, vS] 163 (0, 0))
 oL : Out w0 w 9 1 vL M.length (M.map .string)
 oS : Out w0 w 9 1 vS N.length (N.map .string)
 ap : Apart vL vS
 le : w0.heap.size ≤ b6 ∧ w0.heap.size ≤ b8
 ne : b4 ≠ b8 ∧ b5 ≠ b8 ∧ b6 ≠ b8
section
variable {w0 w w' : World} {b4 b5 b6 b8 : Nat} {v1 u1 v2 u2 vL vS v' : Value} {M N M' : List ByteArray}
theorem BO.later (h : BO w0 w b4 b5 b6 b8 v1 u1 v2 u2 vL vS M N) (hb : Below w.heap.size w w') : BO w0 w' b4 b5 b6 b8 v1 u1 v2 u2 vL vS M N :=
 ⟨(hb.block _ (zh h.r4).1).trans h.r4, (hb.block _ (zh h.r5).1).trans h.r5, (hb.block _ (zh h.r6).1).trans h.r6, (hb.block _ (zh h.r8).1).trans h.r8, h.oL.later hb, h.oS.later hb, h.ap, h.le, h.ne⟩
theorem BO.cells (h : BO w0 w b4 b5 b6 b8 v1 u1 v2 u2 vL vS M N) :
  w.cell? ⟨b4, 0, none⟩ = some v1 ∧ w.cell? ⟨b4, 1, none⟩ = some u1 ∧ w.cell? ⟨b5, 0, none⟩ = some v2 ∧ w.cell? ⟨b5, 1, none⟩ = some u2 ∧ w.cell? ⟨b8, 0, none⟩ = some vL ∧ w.cell? ⟨b8, 1, none⟩ = some vS := by
 refine ⟨?_, ?_, ?_, ?_, ?_, ?_⟩
 ·rw [cell_of_row _ _ _ _ _ _ h.r4]; rfl
 ·rw [cell_of_row _ _ _ _ _ _ h.r4]; rfl
 ·rw [cell_of_row _ _ _ _ _ _ h.r5]; rfl
 ·rw [cell_of_row _ _ _ _ _ _ h.r5]; rfl
 ·rw [cell_of_row _ _ _ _ _ _ h.r8]; rfl
 ·rw [cell_of_row _ _ _ _ _ _ h.r8]; rfl
theorem BO.putL (h : BO w0 w b4 b5 b6 b8 v1 u1 v2 u2 vL vS M N) (hg : w.grownBy w' vL.ownBlock) (ho : Out w0 w' 9 1 v' M'.length (M'.map .string)) (hat : v'.ownBlock = vL.ownBlock ∨ ∃ k, v'.ownBlock = some k ∧ w.heap.size ≤ k) :
  BO w0 (w'.setCell ⟨b8, 0, none⟩ v') b4 b5 b6 b8 v1 u1 v2 u2 v' vS M' N ∧ w'.cell? ⟨b8, 0, none⟩ = some vL ∧ w'.frozen? ⟨b8, 0, none⟩ = false := by
 have q4 := row_grown h.oL h.r4 (by decide) hg
 have q5 := row_grown h.oL h.r5 (by decide) hg
 have q6 := row_grown h.oL h.r6 (by decide) hg
 have q8 := row_grown h.oL h.r8 (by decide) hg
 refine ⟨⟨(setCell_other h.ne.1).trans q4, (setCell_other h.ne.2.1).trans q5, (setCell_other h.ne.2.2).trans q6, setCell_row q8, out_put_other ho q8 (by decide) h.le.2, out_put_other (h.oL.beside h.oS h.ap hg) q8 (by decide) h.le.2, fun k hk hk2 => ?_, h.le, h.ne⟩, by rw [cell_of_row _ _ _ _ _ _ q8]; rfl, frozen_of_row _ _ _ _ _ q8⟩
 rcases hat with he | ⟨j, he, hle⟩
 ·exact h.ap k (by rw [← he]; exact hk) hk2
 ·rw [hk] at he
  have := Option.some.inj he
  have := (h.oS.own.lt k hk2).2
  omega
theorem BO.putS (h : BO w0 w b4 b5 b6 b8 v1 u1 v2 u2 vL vS M N) (hg : w.grownBy w' vS.ownBlock) (ho : Out w0 w' 9 1 v' M'.length (M'.map .string)) (hat : v'.ownBlock = vS.ownBlock ∨ ∃ k, v'.ownBlock = some k ∧ w.heap.size ≤ k) :
  BO w0 (w'.setCell ⟨b8, 1, none⟩ v') b4 b5 b6 b8 v1 u1 v2 u2 vL v' M M' ∧ w'.cell? ⟨b8, 1, none⟩ = some vS ∧ w'.frozen? ⟨b8, 1, none⟩ = false := by
 have q4 := row_grown h.oS h.r4 (by decide) hg
 have q5 := row_grown h.oS h.r5 (by decide) hg
 have q6 := row_grown h.oS h.r6 (by decide) hg
 have q8 := row_grown h.oS h.r8 (by decide) hg
 refine ⟨⟨(setCell_other h.ne.1).trans q4, (setCell_other h.ne.2.1).trans q5, (setCell_other h.ne.2.2).trans q6, setCell_row q8, out_put_other (h.oS.beside h.oL h.ap.symm hg) q8 (by decide) h.le.2, out_put_other ho q8 (by decide) h.le.2, fun k hk hk2 => ?_, h.le, h.ne⟩, by rw [cell_of_row _ _ _ _ _ _ q8]; rfl, frozen_of_row _ _ _ _ _ q8⟩
 rcases hat with he | ⟨j, he, hle⟩
 ·exact h.ap k hk (by rw [← he]; exact hk2)
 ·rw [hk2] at he
  have := Option.some.inj he
  have := (h.oL.own.lt k hk).2
  omega
end
theorem both_any (W : WL) (b : Nat) (f g : Fr) (v1 u1 v2 u2 : Value) (w : World) (hW : Wd w b W) (hC : Closed W) (hf : RightF W f) (hg : RightF W g) (h1 : Sl w v1 f.L.length 1 (f.L.map .string)) (h2 : Sl w v2 g.L.length 1 (g.L.map .string)) (h3 : Sl w u1 f.S.length 1 (f.S.map .string)) (h4 : Sl w u2 g.S.length 1 (g.S.map .string))
  (n1 : f.L.length ≤ 1000000) (n2 : g.L.length ≤ 1000000) :
  Calls Tryz.prog 154 #[.map (some b), .agg #[v1, u1], .agg #[v2, u2]] w (AfterBy w (bothF W f g)) := by
 obtain ⟨L1, S1⟩ := f
 obtain ⟨L2, S2⟩ := g
 simp only at h1 h2 h3 h4 n1 n2
 obtain ⟨Z, hZ⟩ : ∃ Z, bothF W ⟨L1, S1⟩ ⟨L2, S2⟩ = Z := ⟨_, rfl⟩
 rw [hZ]
 have s1 : S1.length ≤ 8 := hf.S.len
 have s2 : S2.length ≤ 8 := hg.S.len
 obtain ⟨aa, ca, rfl⟩ := h1.val
 obtain ⟨ab, cb, rfl⟩ := h2.val
 obtain ⟨a3, cs, rfl⟩ := h3.val
 obtain ⟨a4, ct, rfl⟩ := h4.val
 obtain ⟨p1, hp1⟩ : ∃ p, L1.length = p := ⟨_, rfl⟩
 obtain ⟨p2, hp2⟩ : ∃ p, L2.length = p := ⟨_, rfl⟩
 obtain ⟨q1, hq1⟩ : ∃ p, S1.length = p := ⟨_, rfl⟩
 obtain ⟨q2, hq2⟩ : ∃ p, S2.length = p := ⟨_, rfl⟩
 rw [hp1] at h1 n1
 rw [hp2] at h2 n2
 rw [hq1] at h3 s1
 rw [hq2] at h4 s2
 rw [hp1, hp2, hq1, hq2]
 have HP1 := hid hp1; have HP2 := hid hp2; have HQ1 := hid hq1; have HQ2 := hid hq2
 clear hp1 hp2 hq1 hq2
 obtain ⟨b4, hb4⟩ : ∃ b4, w.heap.size = b4 := ⟨_, rfl⟩
 obtain ⟨A1, hA1⟩ : ∃ A1, w.alloc (.cells #[.slice aa p1 ca, .slice a3 q1 cs] 163) = A1 := ⟨_, rfl⟩
 obtain ⟨b5, hb5⟩ : ∃ b5, A1.heap.size = b5 := ⟨_, rfl⟩
 obtain ⟨A2, hA2⟩ : ∃ A2, A1.alloc (.cells #[.slice ab p2 cb, .slice a4 q2 ct] 163) = A2 := ⟨_, rfl⟩
 obtain ⟨b6, hb6⟩ : ∃ b6, A2.heap.size = b6 := ⟨_, rfl⟩
 obtain ⟨A3, hA3⟩ : ∃ A3, A2.alloc (.cells #[.slice none 0 0, .slice none 0 0] 163) = A3 := ⟨_, rfl⟩
 have B1 : Below w.heap.size w A1 := hA1 ▸ ext_alloc _ _
 have B2 : Below A1.heap.size A1 A2 := hA2 ▸ ext_alloc _ _
 have B3 : Below A2.heap.size A2 A3 := hA3 ▸ ext_alloc _ _
 have r4 : A1.heap[b4]? = some (.cells #[.slice aa p1 ca, .slice a3 q1 cs] 163 (0, 0)) := by rw [← hA1, ← hb4]; exact heap_alloc_new _ _
 have r5 : A2.heap[b5]? = some (.cells #[.slice ab p2 cb, .slice a4 q2 ct] 163 (0, 0)) := by rw [← hA2, ← hb5]; exact heap_alloc_new _ _
 have r6 : A3.heap[b6]? = some (.cells #[.slice none 0 0, .slice none 0 0] 163 (0, 0)) := by rw [← hA3, ← hb6]; exact heap_alloc_new _ _
 have HA3 := hid (B1.trans ((B2.trans (B3.mono B2.size)).mono B1.size))
 have HR4 : Hid (A3.heap[b4]? = some (.cells #[.slice aa p1 ca, .slice a3 q1 cs] 163 (0, 0))) := hid (((B2.trans (B3.mono B2.size)).block _ (zh r4).1).trans r4)
 have HR5 : Hid (A3.heap[b5]? = some (.cells #[.slice ab p2 cb, .slice a4 q2 ct] 163 (0, 0))) := hid ((B3.block _ (zh r5).1).trans r5)
 have HR6 := hid r6
 have HL6 : Hid (w.heap.size ≤ b6) := hid (by rw [← hb6]; exact Nat.le_trans B1.size B2.size)
 have y0 : A3.cell? ⟨b4, 0, none⟩ = some (.slice aa p1 ca) := by rw [cell_of_row _ _ _ _ _ _ HR4.out]; rfl
 have y1 : A3.cell? ⟨b4, 1, none⟩ = some (.slice a3 q1 cs) := by rw [cell_of_row _ _ _ _ _ _ HR4.out]; rfl
 have y2 : A3.cell? ⟨b5, 0, none⟩ = some (.slice ab p2 cb) := by rw [cell_of_row _ _ _ _ _ _ HR5.out]; rfl
 have y3 : A3.cell? ⟨b5, 1, none⟩ = some (.slice a4 q2 ct) := by rw [cell_of_row _ _ _ _ _ _ HR5.out]; rfl
 have HZ := hid hZ
 have HW := hid hW; have HC := hid hC; have HRF := hid hf; have HRG := hid hg; have H1 := hid h1; have H2 := hid h2; have H3 := hid h3; have H4 := hid h4
 clear B1 B2 B3 r4 r5 r6 hZ hW hC hf hg h1 h2 h3 h4
 by_cases hne : p1 = p2 ∧ q1 = q2
 ·obtain ⟨hl1, hl2⟩ := hne
  subst hl1
  subst hl2
  have HZY : Hid (Z = some ⟨joinTo W L1 L2, joinTo W S1 S2⟩) := hid (by
   rw [← HZ.out]
   unfold bothF
   have e1 := HP1.out; have e2 := HP2.out; have e3 := HQ1.out; have e4 := HQ2.out
   rw [if_neg (by simp only; omega)]
   rfl)
  have HN1 : Hid ((joinTo W L1 L2).length = p1) := hid (by rw [joinTo_len W (HP1.out.trans HP2.out.symm)]; exact HP1.out)
  have HN2 : Hid ((joinTo W S1 S2).length = q1) := hid (by rw [joinTo_len W (HQ1.out.trans HQ2.out.symm)]; exact HQ1.out)
  obtain ⟨b8, hb8⟩ : ∃ b8, A3.heap.size = b8 := ⟨_, rfl⟩
  obtain ⟨A4, hA4⟩ : ∃ A4, A3.alloc (.cells #[.slice none 0 0, .slice none 0 0] 163) = A4 := ⟨_, rfl⟩
  have HO0 : Hid (BO w A4 b4 b5 b6 b8 (.slice aa p1 ca) (.slice a3 q1 cs) (.slice ab p1 cb) (.slice a4 q1 ct) (.slice none 0 0) (.slice none 0 0) ((joinTo W L1 L2).take 0) []) := hid (by
   have hb : Below A3.heap.size A3 A4 := hA4 ▸ ext_alloc _ _
   have hb0 := HA3.out.trans (hb.mono HA3.out.size)
   have n4 := (zh HR4.out).1
   have n5 := (zh HR5.out).1
   have n6 := (zh HR6.out).1
   refine ⟨(hb.block _ n4).trans HR4.out, (hb.block _ n5).trans HR5.out, (hb.block _ n6).trans HR6.out, by rw [← hA4, ← hb8]; exact heap_alloc_new _ _, nil_own hb0 _ _, nil_own hb0 _ _, apart_nil _ _ _, ⟨HL6.out, (by rw [← hb8]; exact HA3.out.size)⟩, (by omega), (by omega), (by omega)⟩)
  obtain ⟨x0, x1, x2, x3, x4, x5⟩ := HO0.out.cells
  go_enter Tryz.func154, Tryz.ntmps154
  go_wp2_with fail
  clear hA4 hb8 hA1 hA2 hA3
  go_loopw [33] (fun v wr => ∃ (i : Nat) (vO : Value), i ≤ p1 ∧ v = .int .i64 (i : Int) ∧ Hid (BO w wr b4 b5 b6 b8 (.slice aa p1 ca) (.slice a3 q1 cs) (.slice ab p1 cb) (.slice a4 q1 ct) vO (.slice none 0 0) ((joinTo W L1 L2).take i) [])) (fun v _ => p1 - (intOf v).toNat)
  case atStart => exact ⟨0, _, Nat.zero_le _, rfl, HO0⟩
  case round =>
   obtain ⟨i, vO, hi, rfl, HO⟩ := hrel
   have hi0 : (0 : Int) ≤ (i : Int) := by omega
   obtain ⟨wb, hwb⟩ : ∃ wb, wb = wr := ⟨_, rfl⟩
   subst hwb
   by_cases hlt : i < p1
   ·have hi1 : (i : Int) < (p1 : Int) := by omega
    have hll : i < L1.length := by have := HP1.out; omega
    have hlm : i < L2.length := by have := HP2.out; omega
    have HBW := hid HO.out.oL.below
    obtain ⟨b1, o1, hb1, hd1⟩ := text_atn HP1.out (H1.out.below HBW.out) hlt
    obtain ⟨b2, o2, hb2, hd2⟩ := text_atn HP2.out (H2.out.below HBW.out) hlt
    subst hb1
    subst hb2
    have HSTEP := hid (joinTo_step W hll hlm)
    have HR1 := hid (HRF.out.L _ (List.getElem_mem hll))
    have HR2 := hid (HRG.out.L _ (List.getElem_mem hlm))
    try simp only at HR1 HR2
    generalize L1[i] = x at hd1 HSTEP HR1
    generalize L2[i] = y at hd2 HSTEP HR2
    have HJ := hid (fun u hu => jof_any W HC.out b x.size x y u (Nat.le_refl _) HR1.out HR2.out hu)
    obtain ⟨z, hz⟩ : ∃ z, bs (joinK W x.data.toList y.data.toList) = z := ⟨_, rfl⟩
    rw [hz] at HJ HSTEP
    have hnl : ((joinTo W L1 L2).take i).length ≤ 1000000 := by rw [List.length_take]; have := HN1.out; omega
    obtain ⟨no, hno⟩ : ∃ no, ((joinTo W L1 L2).take i).length = no := ⟨_, rfl⟩
    obtain ⟨ao, co, hvo⟩ := HO.out.oL.sl.val
    rw [hno] at hvo hnl
    subst hvo
    have HNO := hid hno
    have HX : Hid (∀ u, Below wb.heap.size wb u → u.cell? ⟨b8, 0, none⟩ = some (.slice ao no co) ∧ u.cell? ⟨b5, 0, none⟩ = some (.slice (some ⟨b2, o2, none⟩) p1 cb) ∧ u.cell? ⟨b2, o2 + i, none⟩ = some (.string y) ∧ Wd u b W) := hid (fun u hu => ⟨(HO.out.later hu).cells.2.2.2.2.1, (HO.out.later hu).cells.2.2.1, by rw [hu.cell (p := ⟨b2, o2 + i, none⟩) (World.block_lt_of_cell? wb _ hd2)]; exact hd2, (HW.out.below HBW.out).below hu⟩)
    clear hz hno
    go_wp2_with fail
    refine wp_region_ext_tail 11 [(9, is (.string z)), (10, fun v u => Sl u v 1 1 [.string z])] ⟨is_stays _, fun _ _ _ h r => r.below h, trivial⟩ (by kernel_rfl) (by kernel_rfl) ?_
    refine zgc 1 ?_
    go_frame
    refine wpG_read 2 rfl rfl (.slice ao no co) rfl ?_ ?_
    ·intro u hu hh
     have q := (HX.out u hu).1
     go_simp
    go_frame
    refine zgc 3 ?_
    go_frame
    refine zgc 4 ?_
    go_frame
    refine zgc 5 ?_
    go_frame
    refine wpG_read 6 rfl rfl (.slice (some ⟨b2, o2, none⟩) p1 cb) rfl ?_ ?_
    ·intro u hu hh
     have q := (HX.out u hu).2.1
     go_simp
    go_frame
    refine zgc 7 ?_
    go_frame
    refine wpG_calc (v := .pointer (some ⟨b2, o2 + i, none⟩)) 8 rfl rfl rfl (fun u => by first | (go_simp; done) | (go_simp; rfl) | (go_simp; omega)) ?_
    go_frame
    refine wpG_read 9 rfl rfl (.string y) rfl ?_ ?_
    ·intro u hu hh
     have q := (HX.out u hu).2.2.1
     go_simp
    go_frame
    refine wpG_rel 10 rfl rfl rfl ?_ ?_
    ·intro u hu hh
     go_simp
     refine (HJ.out u (HX.out u hu).2.2.2).mono ?_
     rintro e w9 ⟨rfl, hb9⟩
     exact ⟨_, rfl, rfl, hb9⟩
    intro vA ⟨uA, _, hrA⟩
    have hvA : vA = .string z := hrA
    subst hvA
    go_frame
    refine wpG_rel 11 rfl rfl rfl ?_ ?_
    ·intro u hu hh
     go_simp
     exact ⟨Sl.lit u #[.string z] 9 1 1 rfl, ext_alloc _ _⟩
    intro vB ⟨uB, _, hrB⟩
    go_frame
    refine wpG_nil fun w' hb' hF => ?_
    clear HX
    have hsB : Sl w' vB 1 1 [.string z] := hF 10
    obtain ⟨gB, cB, hvB⟩ := hsB.val
    subst hvB
    have HO2 := hid (HO.out.later hb')
    have HOUT : Hid (Out w w' 9 1 (.slice ao no co) no (((joinTo W L1 L2).take i).map .string)) := hid (by have := HO2.out.oL; rwa [HNO.out] at this)
    clear hb' hF
    obtain ⟨x0, x1, x2, x3, x4, x5⟩ := HO2.out.cells
    simp only [List.drop_succ_cons, List.drop_zero, List.getElem_toArray, List.getElem_cons_zero, List.getElem_cons_succ]
    refine wpList_append_src_at w _ rfl _ _ 24 rfl 9 (.string { data := #[] }) 1 16 1 Tryz.underlying24 infoS rfl (by decide) _ _ _ HOUT.out rfl _ _ hsB rfl (by intro u hu; rw [List.mem_singleton.1 hu]; rfl) (by omega) (by omega) ?_
    intro v2' w2' ho2 hg2 hat2
    obtain ⟨a2', c2', hv2'⟩ := ho2.sl.val
    have HPUT := hid (HO2.out.putL (w' := w2') (v' := v2') (M' := (joinTo W L1 L2).take (i + 1)) hg2 (by rw [HSTEP.out, List.length_append, HNO.out, List.map_append]; exact ho2) hat2)
    subst hv2'
    obtain ⟨HO3', y4, f4⟩ := HPUT.out
    have HO3 := hid HO3'
    clear HO3' ho2 hg2 hat2 HPUT x0 x1 x2 x3 x4 x5 hsB
    go_wp2_with fail
    go_roundw
    case rel => exact ⟨i + 1, _, by omega, by simp, HO3⟩
    case measure => simp [intOf]; omega
   ·obtain rfl : p1 = i := by omega
    clear hlt hi0 hi
    have HOS : Hid (BO w wb b4 b5 b6 b8 (.slice aa p1 ca) (.slice a3 q1 cs) (.slice ab p1 cb) (.slice a4 q1 ct) vO (.slice none 0 0) (joinTo W L1 L2) ((joinTo W S1 S2).take 0)) := hid (by have := HO.out; rw [List.take_of_length_le (by have := HN1.out; omega)] at this; exact this)
    clear HO HO0 x0 x1 x2 x3 x4 x5
    obtain ⟨x0, x1, x2, x3, x4, x5⟩ := HOS.out.cells
    go_wp2_with fail
    obtain ⟨vA, hvA0⟩ : ∃ v, vO = v := ⟨_, rfl⟩
    rw [hvA0] at HOS
    clear hvA0
    go_loopw [55] (fun v wr => ∃ (i : Nat) (vO : Value), i ≤ q1 ∧ v = .int .i64 (i : Int) ∧ Hid (BO w wr b4 b5 b6 b8 (.slice aa p1 ca) (.slice a3 q1 cs) (.slice ab p1 cb) (.slice a4 q1 ct)  vA vO (joinTo W L1 L2) ((joinTo W S1 S2).take i))) (fun v _ => q1 - (intOf v).toNat)
    case atStart => exact ⟨0, _, Nat.zero_le _, rfl, HOS⟩
    case round =>
     obtain ⟨i, vO, hi, rfl, HO⟩ := hrel
     have hi0 : (0 : Int) ≤ (i : Int) := by omega
     obtain ⟨wb, hwb⟩ : ∃ wb, wb = wr := ⟨_, rfl⟩
     subst hwb
     by_cases hlt : i < q1
     ·have hi1 : (i : Int) < (q1 : Int) := by omega
      have hll : i < S1.length := by have := HQ1.out; omega
      have hlm : i < S2.length := by have := HQ2.out; omega
      have HBW := hid HO.out.oS.below
      obtain ⟨b1, o1, hb1, hd1⟩ := text_atn HQ1.out (H3.out.below HBW.out) hlt
      obtain ⟨b2, o2, hb2, hd2⟩ := text_atn HQ2.out (H4.out.below HBW.out) hlt
      subst hb1
      subst hb2
      have HSTEP := hid (joinTo_step W hll hlm)
      have HR1 := hid (HRF.out.S.right _ (List.getElem_mem hll))
      have HR2 := hid (HRG.out.S.right _ (List.getElem_mem hlm))
      try simp only at HR1 HR2
      generalize S1[i] = x at hd1 HSTEP HR1
      generalize S2[i] = y at hd2 HSTEP HR2
      have HJ := hid (fun u hu => jof_any W HC.out b x.size x y u (Nat.le_refl _) HR1.out HR2.out hu)
      obtain ⟨z, hz⟩ : ∃ z, bs (joinK W x.data.toList y.data.toList) = z := ⟨_, rfl⟩
      rw [hz] at HJ HSTEP
      have hnl : ((joinTo W S1 S2).take i).length ≤ 1000000 := by rw [List.length_take]; have := HN2.out; omega
      obtain ⟨no, hno⟩ : ∃ no, ((joinTo W S1 S2).take i).length = no := ⟨_, rfl⟩
      obtain ⟨ao, co, hvo⟩ := HO.out.oS.sl.val
      rw [hno] at hvo hnl
      subst hvo
      have HNO := hid hno
      have HX : Hid (∀ u, Below wb.heap.size wb u → u.cell? ⟨b8, 1, none⟩ = some (.slice ao no co) ∧ u.cell? ⟨b5, 1, none⟩ = some (.slice (some ⟨b2, o2, none⟩) q1 ct) ∧ u.cell? ⟨b2, o2 + i, none⟩ = some (.string y) ∧ Wd u b W) := hid (fun u hu => ⟨(HO.out.later hu).cells.2.2.2.2.2, (HO.out.later hu).cells.2.2.2.1, by rw [hu.cell (p := ⟨b2, o2 + i, none⟩) (World.block_lt_of_cell? wb _ hd2)]; exact hd2, (HW.out.below HBW.out).below hu⟩)
      clear hz hno
      go_wp2_with fail
      refine wp_region_ext_tail 11 [(9, is (.string z)), (10, fun v u => Sl u v 1 1 [.string z])] ⟨is_stays _, fun _ _ _ h r => r.below h, trivial⟩ (by kernel_rfl) (by kernel_rfl) ?_
      refine zgc 1 ?_
      go_frame
      refine wpG_read 2 rfl rfl (.slice ao no co) rfl ?_ ?_
      ·intro u hu hh
       have q := (HX.out u hu).1
       go_simp
      go_frame
      refine zgc 3 ?_
      go_frame
      refine zgc 4 ?_
      go_frame
      refine zgc 5 ?_
      go_frame
      refine wpG_read 6 rfl rfl (.slice (some ⟨b2, o2, none⟩) q1 ct) rfl ?_ ?_
      ·intro u hu hh
       have q := (HX.out u hu).2.1
       go_simp
      go_frame
      refine zgc 7 ?_
      go_frame
      refine wpG_calc (v := .pointer (some ⟨b2, o2 + i, none⟩)) 8 rfl rfl rfl (fun u => by first | (go_simp; done) | (go_simp; rfl) | (go_simp; omega)) ?_
      go_frame
      refine wpG_read 9 rfl rfl (.string y) rfl ?_ ?_
      ·intro u hu hh
       have q := (HX.out u hu).2.2.1
       go_simp
      go_frame
      refine wpG_rel 10 rfl rfl rfl ?_ ?_
      ·intro u hu hh
       go_simp
       refine (HJ.out u (HX.out u hu).2.2.2).mono ?_
       rintro e w9 ⟨rfl, hb9⟩
       exact ⟨_, rfl, rfl, hb9⟩
      intro vA ⟨uA, _, hrA⟩
      have hvA : vA = .string z := hrA
      subst hvA
      go_frame
      refine wpG_rel 11 rfl rfl rfl ?_ ?_
      ·intro u hu hh
       go_simp
       exact ⟨Sl.lit u #[.string z] 9 1 1 rfl, ext_alloc _ _⟩
      intro vB ⟨uB, _, hrB⟩
      go_frame
      refine wpG_nil fun w' hb' hF => ?_
      clear HX
      have hsB : Sl w' vB 1 1 [.string z] := hF 10
      obtain ⟨gB, cB, hvB⟩ := hsB.val
      subst hvB
      have HO2 := hid (HO.out.later hb')
      have HOUT : Hid (Out w w' 9 1 (.slice ao no co) no (((joinTo W S1 S2).take i).map .string)) := hid (by have := HO2.out.oS; rwa [HNO.out] at this)
      clear hb' hF
      obtain ⟨x0, x1, x2, x3, x4, x5⟩ := HO2.out.cells
      simp only [List.drop_succ_cons, List.drop_zero, List.getElem_toArray, List.getElem_cons_zero, List.getElem_cons_succ]
      refine wpList_append_src_at w _ rfl _ _ 24 rfl 9 (.string { data := #[] }) 1 16 1 Tryz.underlying24 infoS rfl (by decide) _ _ _ HOUT.out rfl _ _ hsB rfl (by intro u hu; rw [List.mem_singleton.1 hu]; rfl) (by omega) (by omega) ?_
      intro v2' w2' ho2 hg2 hat2
      obtain ⟨a2', c2', hv2'⟩ := ho2.sl.val
      have HPUT := hid (HO2.out.putS (w' := w2') (v' := v2') (M' := (joinTo W S1 S2).take (i + 1)) hg2 (by rw [HSTEP.out, List.length_append, HNO.out, List.map_append]; exact ho2) hat2)
      subst hv2'
      obtain ⟨HO3', y4, f4⟩ := HPUT.out
      have HO3 := hid HO3'
      clear HO3' ho2 hg2 hat2 HPUT x0 x1 x2 x3 x4 x5 hsB
      go_wp2_with fail
      go_roundw
      case rel => exact ⟨i + 1, _, by omega, by simp, HO3⟩
      case measure => simp [intOf]; omega
     ·obtain rfl : q1 = i := by omega
      clear hlt hi0 hi
      have HOE : Hid (BO w wb b4 b5 b6 b8 (.slice aa p1 ca) (.slice a3 q1 cs) (.slice ab p1 cb) (.slice a4 q1 ct)  vA vO (joinTo W L1 L2) (joinTo W S1 S2)) := hid (by have := HO.out; rw [List.take_of_length_le (l := joinTo W S1 S2) (by have := HN2.out; omega)] at this; exact this)
      clear HO HOS x0 x1 x2 x3 x4 x5
      obtain ⟨x0, x1, x2, x3, x4, x5⟩ := HOE.out.cells
      have z0 : wb.cell? ⟨b6, 0, none⟩ = some (.slice none 0 0) := by rw [cell_of_row _ _ _ _ _ _ HOE.out.r6]; rfl
      have z1 : wb.cell? ⟨b6, 1, none⟩ = some (.slice none 0 0) := by rw [cell_of_row _ _ _ _ _ _ HOE.out.r6]; rfl
      have g0 : wb.frozen? ⟨b6, 0, none⟩ = false := frozen_of_row _ _ _ _ _ HOE.out.r6
      have g1 : wb.frozen? ⟨b6, 1, none⟩ = false := frozen_of_row _ _ _ _ _ HOE.out.r6
      obtain ⟨aE, cE, hvE⟩ := HOE.out.oL.sl.val
      obtain ⟨aF, cF, hvF⟩ := HOE.out.oS.sl.val
      obtain ⟨nE, hnE⟩ : ∃ n, (joinTo W L1 L2).length = n := ⟨_, rfl⟩
      obtain ⟨nF, hnF⟩ : ∃ n, (joinTo W S1 S2).length = n := ⟨_, rfl⟩
      rw [hnE] at hvE
      rw [hnF] at hvF
      subst hvE
      subst hvF
      have HNE := hid hnE
      have HNF := hid hnF
      clear hnE hnF
      have h1 := heap_set HOE.out.r6 0 (.slice aE nE cE)
      have h2 := heap_set h1 1 (.slice aF nF cF)
      have HFR := hid h2
      have HFA : Hid (AfterBy w Z (.returned (.tuple #[.agg #[.slice aE nE cE, .slice aF nF cF], .bool true])) ((wb.setCell ⟨b6, 0, none⟩ (.slice aE nE cE)).setCell ⟨b6, 1, none⟩ (.slice aF nF cF))) := hid (after_yes HZY.out ((HOE.out.oL.below.setCell HOE.out.le.1 _).setCell HOE.out.le.1 _) (out_put_other (out_put_other HOE.out.oL HOE.out.r6 (by decide) HOE.out.le.1) h1 (by decide) HOE.out.le.1) (out_put_other (out_put_other HOE.out.oS HOE.out.r6 (by decide) HOE.out.le.1) h1 (by decide) HOE.out.le.1))
      clear h1 h2
      go_wp2_with fail
      refine bodyPost_ret (results_cell_at rfl _ _ b6 _ _ _ _ rfl HFR.out Tryz.underlying163 rfl (by kernel_rfl)) rfl ?_
      exact HFA.out
 ·have HZN : Hid (Z = none) := hid (by
   rw [← HZ.out]
   unfold bothF
   have e1 := HP1.out; have e2 := HP2.out; have e3 := HQ1.out; have e4 := HQ2.out
   rw [if_pos (by simp only; omega)])
  clear HZ
  have z0 : A3.cell? ⟨b6, 0, none⟩ = some (.slice none 0 0) := by rw [cell_of_row _ _ _ _ _ _ HR6.out]; rfl
  have z1 : A3.cell? ⟨b6, 1, none⟩ = some (.slice none 0 0) := by rw [cell_of_row _ _ _ _ _ _ HR6.out]; rfl
  have g0 : A3.frozen? ⟨b6, 0, none⟩ = false := frozen_of_row _ _ _ _ _ HR6.out
  have g1 : A3.frozen? ⟨b6, 1, none⟩ = false := frozen_of_row _ _ _ _ _ HR6.out
  have h1 := heap_set HR6.out 0 (.slice none 0 0)
  have h2 := heap_set h1 1 (.slice none 0 0)
  have HFR := hid h2
  have HFA : Hid (AfterBy w Z (.returned (.tuple #[.agg #[.slice none 0 0, .slice none 0 0], .bool false])) ((A3.setCell ⟨b6, 0, none⟩ (.slice none 0 0)).setCell ⟨b6, 1, none⟩ (.slice none 0 0))) := hid (after_no HZN.out ((HA3.out.setCell HL6.out _).setCell HL6.out _))
  clear h1 h2
  by_cases hp : p1 = p2
  ·subst hp
   have hq : ¬ q1 = q2 := fun e => hne ⟨rfl, e⟩
   have hq2 : ((q1 : Int) != (q2 : Int)) = true := by simp; omega
   clear hne
   go_enter Tryz.func154, Tryz.ntmps154
   go_wp2_with fail
   refine bodyPost_ret (results_cell_at rfl _ _ b6 _ _ _ _ rfl HFR.out Tryz.underlying163 rfl (by kernel_rfl)) rfl ?_
   exact HFA.out
  ·have hp2 : ((p1 : Int) != (p2 : Int)) = true := by simp; omega
   clear hne
   go_enter Tryz.func154, Tryz.ntmps154
   go_wp2_with fail
   refine bodyPost_ret (results_cell_at rfl _ _ b6 _ _ _ _ rfl HFR.out Tryz.underlying163 rfl (by kernel_rfl)) rfl ?_
   exact HFA.out
end Go.Proofs.YtloonnfelgokmaaGreatDoor.worlds
