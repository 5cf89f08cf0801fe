/- Handles called: CallBinds: an arg bound, an arg filtered, an arg dropped; its walk. Conditions: the handle is not too great, its texts and the args are not long. -/
import Derived.Test.YtikkhjcocmihlaaDoorBinds1
import Derived.Test.YtikkhjcocmihlaaDoorMtypeP
import Derived.Test.YtikkhjcocmihlaaDoorSrc
import Derived.Test.YtikkhjcocmihlaaDoorTgt
import Derived.Test.YtikkhjcocmihlaaDoorNumW
set_option linter.unusedSimpArgs false
set_option linter.unusedVariables false
namespace Go.Proofs.YtikkhjcocmihlaaDoor.hands
open Go.RowKit Go.Proofs.YtikkhjcocmihlaaDoor.lib Go.Proofs.YtikkhjcocmihlaaDoor.errs Go.Proofs.YtikkhjcocmihlaaDoor.descs Go.Proofs.YtikkhjcocmihlaaDoor.mtypes Go.Proofs.YtikkhjcocmihlaaDoor.nums Go.Proofs.YtikkhjcocmihlaaDoor.grow Go.Proofs.YtikkhjcocmihlaaDoor.texts

/-- two handles side by side in a block of their own -/
def rows2 (x : Nd) (va vs : Value) (q : Int) (T : ByteArray) (m : Int) : Value → World → Prop := fun v u => ∃ H, v = .slice (some ⟨H, 0, none⟩) 2 2 ∧ u.heap[H]? = some (.cells #[.int .i64 x.k, .string x.t, .int .i64 x.a, va, vs, .int .i64 q, .string T, .int .i64 m, .slice none 0 0, .slice none 0 0] 25 (0, 0))
theorem rows2_stays (x : Nd) (va vs : Value) (q : Int) (T : ByteArray) (m : Int) : ∀ v u u', Below u.heap.size u u' → rows2 x va vs q T m v u → rows2 x va vs q T m v u' := by
  rintro v u u' hb ⟨H, rfl, h⟩
  exact ⟨H, rfl, (hb.block H (Array.getElem?_eq_some_iff.1 h).1).trans h⟩
def pairR (p : Int) (k : Nat) (x : Nd) (va vs : Value) (q : Int) (T : ByteArray) (m : Int) : Value → World → Prop := fun v u => ∃ H, v = .agg #[.int .i64 p, .string noT, .int .i64 k, .slice none 0 0, .slice (some ⟨H, 0, none⟩) 2 2] ∧ rows2 x va vs q T m (.slice (some ⟨H, 0, none⟩) 2 2) u
theorem pairR_stays (p : Int) (k : Nat) (x : Nd) (va vs : Value) (q : Int) (T : ByteArray) (m : Int) : ∀ v u u', Below u.heap.size u u' → pairR p k x va vs q T m v u → pairR p k x va vs q T m v u' := by
  rintro v u u' hb ⟨H, rfl, h⟩
  exact ⟨H, rfl, rows2_stays x va vs q T m _ _ _ hb h⟩
theorem sl_nil (u : World) (n : Nat) : Sl u (.slice none 0 0) 0 n [] := ⟨by simp, _, _, rfl, Nat.le_refl _, .inl rfl⟩
theorem rows2_sl {x : Nd} {q : Int} {T : ByteArray} {m : Int} {v : Value} {u : World} (h : rows2 x x.va x.vs q T m v u) : Sl u v 2 5 ([x, ⟨q, T, m, .slice none 0 0, .slice none 0 0, [], .nil⟩].flatMap Nd.cells) := by
  obtain ⟨H, rfl, h⟩ := h
  refine ⟨rfl, _, _, rfl, Nat.le_refl _, .inr ⟨_, _, rfl, fun j q hj => ?_⟩⟩
  rw [Nat.zero_add, cell_of_row _ _ _ _ _ _ h]
  simpa [Nd.cells] using hj
theorem pair_at {u : World} {p : Int} {k : Nat} {x : Nd} {q : Int} {T : ByteArray} {m : Int} {v : Value} (hx : NAt u x) (h : rows2 x x.va x.vs q T m v u) : NAt u (pairN p k x ⟨q, T, m, .slice none 0 0, .slice none 0 0, [], .nil⟩ v) :=
  ⟨⟨sl_nil u 1, rows2_sl h⟩, hx.1, hx.2, ⟨sl_nil u 1, sl_nil u 5⟩, trivial, trivial⟩
theorem put_at {u : World} {k : Nat} {x : Nd} {v : Value} (hx : NAt u x) (h : Sl u v 1 5 ([x].flatMap Nd.cells)) : NAt u (putN k x v) := ⟨⟨sl_nil u 1, h⟩, hx.1, hx.2, trivial⟩
theorem infoI2 : (Tryd.prog.info? 3).map (fun i => (i.zero, i.size, i.bytes)) = some (some (.int .i64 0), 1, 8) := by kernel_rfl
/-- one handle in a block of its own -/
def row1 (x : Nd) (va vs : Value) : Value → World → Prop := fun v u => ∃ H, v = .slice (some ⟨H, 0, none⟩) 1 1 ∧ u.heap[H]? = some (.cells #[.int .i64 x.k, .string x.t, .int .i64 x.a, va, vs] 25 (0, 0))
theorem row1_sl {x : Nd} {v : Value} {u : World} (h : row1 x x.va x.vs v u) : Sl u v 1 5 ([x].flatMap Nd.cells) := by
  obtain ⟨H, rfl, h⟩ := h
  refine ⟨rfl, _, _, rfl, Nat.le_refl _, .inr ⟨_, _, rfl, fun j q hj => ?_⟩⟩
  rw [Nat.zero_add, cell_of_row _ _ _ _ _ _ h]
  simpa [Nd.cells] using hj

theorem row1_stE {n1 k : Nat} {tg : List Value} (x : Nd) (va vs : Value) : ∀ v u u', Ext n1 3 k tg u u' → row1 x va vs v u → row1 x va vs v u' := by
  rintro v u u' he ⟨H, rfl, h⟩
  exact ⟨H, rfl, he.other h (by decide)⟩
def putR (k : Nat) (x : Nd) (va vs : Value) : Value → World → Prop := fun v u => ∃ H, v = .agg #[.int .i64 4, .string ⟨#[73]⟩, .int .i64 k, .slice none 0 0, .slice (some ⟨H, 0, none⟩) 1 1] ∧ row1 x va vs (.slice (some ⟨H, 0, none⟩) 1 1) u
theorem putR_stE {n1 k : Nat} {tg : List Value} (q : Nat) (x : Nd) (va vs : Value) : ∀ v u u', Ext n1 3 k tg u u' → putR q x va vs v u → putR q x va vs v u' := by
  rintro v u u' he ⟨H, rfl, h⟩
  exact ⟨H, rfl, row1_stE x va vs _ _ _ he h⟩
/-- the number, or that it is full -/
def orFull (n : Int) : Value → World → Prop := fun v _ => ∃ r e, v = .tuple #[.int .i64 r, e] ∧ ((r = n ∧ e = .nilIface) ∨ (r = 0 ∧ e = .iface 39 (.int .i64 4)))

set_option maxRecDepth 100000 in
set_option maxHeartbeats 8000000 in
theorem callbinds_any (x : Nd) (va : Value) (az : List Int) (at_ cc : Int) (w : World) (hcc : InR cc) (hx : NAt w x) (hS : ShortN x) (hB : cnt x ≤ 1000000000000) (haz : Sl w va az.length 1 (az.map iv)) (hn : az.length ≤ 1000000000000) :
    Calls Tryd.prog 3 #[.agg #[.int .i64 x.k, .string x.t, .int .i64 x.a, x.va, x.vs], va, .int .i64 at_, .int .i64 cc] w fun e w' => e = .returned (.bool true) ∧ Below w.heap.size w w' := by
  have HT := hid (fun u (hu : Below w.heap.size w u) => type_any x u (hx.below hu) hS hB)
  have HC := hid (fun u (hu : Below w.heap.size w u) => call_any x va az u (hx.below hu) hS hB (haz.below hu) hn)
  have HZ := hid (fun u (hu : Below w.heap.size w u) => rsize_any (cnt x) x u (Nat.le_refl _) (hx.below hu) hB)
  have HAZ0 := hid haz
  have HIN := hid hcc
  have HXN := hid hx
  have HSN := hid hS
  obtain ⟨R, hR⟩ : ∃ R, typeW x = R := ⟨_, rfl⟩
  obtain ⟨RC, hRC⟩ : ∃ RC, callW x az = RC := ⟨_, rfl⟩
  have HOK : Hid (RC.1 = 0 → R.1 = 0 ∧ ∃ ts g, methodOf R.2 = some (ts, g) ∧ R.2.length ≤ 200 ∧ ts.length = az.length ∧ callW x az = (0, RC.2) ∧ methodOf (typeW x).2 = some (ts, g)) := hid (fun h => by
    have hc : callW x az = (0, RC.2) := by rw [hRC, ← h]
    obtain ⟨ts, g, h0, hm, hl, _⟩ := call_ok hc
    exact ⟨hR ▸ h0, ts, g, hR ▸ hm, hR ▸ short_of hm, hl, hc, hm⟩)
  obtain ⟨a1, c1, e1⟩ := hx.1.1.val
  obtain ⟨a2, c2, e2⟩ := hx.1.2.val
  obtain ⟨aa, ca, rfl⟩ := haz.val
  obtain ⟨k0, hk⟩ : ∃ q, x.k = q := ⟨_, rfl⟩
  obtain ⟨t, ht⟩ : ∃ q, x.t = q := ⟨_, rfl⟩
  obtain ⟨a, ha⟩ : ∃ q, x.a = q := ⟨_, rfl⟩
  obtain ⟨n1, hn1⟩ : ∃ q, x.ats.length = q := ⟨_, rfl⟩
  obtain ⟨n2, hn2⟩ : ∃ q, (nodes x.subs).length = q := ⟨_, rfl⟩
  rw [hn1] at e1
  rw [hn2] at e2
  simp only [hR, hRC, hk, ht, ha, e1, e2] at HT HC HZ ⊢
  unfold Called at HC
  unfold Go.Proofs.YtikkhjcocmihlaaDoor.mtypes.Told at HT
  obtain ⟨c, hc⟩ : ∃ q, cnt x = q := ⟨_, rfl⟩
  have HCN := hid hc
  simp only [hc] at HZ
  have HNX : Hid (x.k = k0 ∧ x.t = t ∧ x.a = a ∧ x.va = .slice a1 n1 c1 ∧ x.vs = .slice a2 n2 c2) := hid ⟨hk, ht, ha, e1, e2⟩
  have HAL := hid hn
  clear hcc hk ht ha hn1 hn2 e1 e2 hx hB hS hR haz hRC hn hc
  obtain ⟨X1, hX1⟩ : ∃ X1, w.alloc (.cells #[.int .i64 k0, .string t, .int .i64 a, .slice a1 n1 c1, .slice a2 n2 c2] 25) = X1 := ⟨_, rfl⟩
  have HB1 : Hid (Below w.heap.size w X1) := hid (hX1 ▸ ext_alloc _ _)
  have HLT : Hid (w.heap.size < X1.heap.size) := hid (by rw [← hX1]; simp)
  have HXR : Hid (X1.heap[w.heap.size]? = some (.cells #[.int .i64 k0, .string t, .int .i64 a, .slice a1 n1 c1, .slice a2 n2 c2] 25 (0, 0))) := hid (by rw [← hX1]; exact heap_alloc_new _ _)
  have HX : Hid (∀ u, Below X1.heap.size X1 u → u.cell? ⟨w.heap.size, 0, none⟩ = some (.int .i64 k0) ∧ u.cell? ⟨w.heap.size, 1, none⟩ = some (.string t) ∧ u.cell? ⟨w.heap.size, 2, none⟩ = some (.int .i64 a) ∧ u.cell? ⟨w.heap.size, 3, none⟩ = some (.slice a1 n1 c1) ∧ u.cell? ⟨w.heap.size, 4, none⟩ = some (.slice a2 n2 c2)) := hid (fun u hu => by
    have h := (hu.block _ HLT.out).trans HXR.out
    refine ⟨?_, ?_, ?_, ?_, ?_⟩ <;> (rw [cell_of_row _ _ _ _ _ _ h]; rfl))
  go_enter Tryd.func3, Tryd.ntmps3
  go_wp2_with fail
  refine (summed_any _).mono ?_
  rintro e w2 ⟨rfl, hb2⟩
  have H12 := hid hb2
  have HB2 := hid (HB1.out.trans (hb2.mono HB1.out.size))
  obtain ⟨x0, x1, x2, x3, x4⟩ := HX.out _ hb2
  clear hb2
  go_wp2_with fail
  refine (HC.out _ HB2.out).mono ?_
  rintro e w3 ⟨rfl, hb3⟩
  have H13 := hid (H12.out.trans (hb3.mono H12.out.size))
  have HB3 := hid (HB2.out.trans (hb3.mono HB2.out.size))
  obtain ⟨x0, x1, x2, x3, x4⟩ := HX.out _ H13.out
  clear hb3
  go_wp2_with fail
  refine (HT.out _ HB3.out).mono ?_
  rintro e w4 ⟨rfl, hb4⟩
  have H14 := hid (H13.out.trans (hb4.mono H13.out.size))
  have HB4 := hid (HB3.out.trans (hb4.mono HB3.out.size))
  obtain ⟨x0, x1, x2, x3, x4⟩ := HX.out _ H14.out
  clear hb4
  obtain ⟨z, n⟩ := RC
  by_cases hz : z = 0
  · obtain ⟨h0, ts, g, hm, hsz, hl, hcall, hmx⟩ := HOK.out hz
    rw [show errVal (z, n).1 = .nilIface from by unfold errVal; rw [if_pos hz], show errVal R.1 = .nilIface from by unfold errVal; rw [if_pos h0]]
    have HM := hid hm
    have HS : Hid ((bs R.2).size ≤ 10000000) := hid (by rw [bs_size]; omega)
    have HL := hid hl
    have HCALL := hid hcall
    have HMX := hid hmx
    have HZ0 := hid hz
    have hts5 : ts.length ≤ 5 := (types_small hm).1
    have haz5 : az.length ≤ 5 := by omega
    clear h0 hm hsz HOK hcall hz hmx hl
    by_cases hlen : az.length = 0
    · have hlb : ((az.length : Int) == 0) = true := by simp [hlen]
      go_wp2
      go_ret
      exact ⟨rfl, HB4.out⟩
    have hlb : ((az.length : Int) == 0) = false := beq_eq_false_iff_ne.2 (by omega)
    go_wp2_with fail
    refine (HZ.out _ HB4.out).mono ?_
    rintro e w5 ⟨r, rfl, hr, hb5⟩
    have H15 := hid (H14.out.trans (hb5.mono H14.out.size))
    have HB5 := hid (HB4.out.trans (hb5.mono HB4.out.size))
    obtain ⟨x0, x1, x2, x3, x4⟩ := HX.out _ H15.out
    have HR := hid hr
    clear hb5 hr
    by_cases h20 : (20 : Int) < r
    · go_wp2
      go_ret
      exact ⟨rfl, HB5.out⟩
    have HC20 : Hid (cnt x ≤ 20) := hid (by
      have := HR.out.2.2 (by omega)
      rw [HCN.out]; omega)
    have h20 : ¬ (20 : Int) < r := h20
    have haz0 : (az.length : Int) ≠ 0 := by omega
    go_wp2_with fail
    obtain ⟨k, hk, hkn⟩ : ∃ k : Nat, wrap64 ((IntKind.u64.wrap at_).tmod az.length) = (k : Int) ∧ k < az.length := by
      have h0 : 0 ≤ IntKind.u64.wrap at_ := by rw [IntKind.wrap_u64]; omega
      rw [Int.tmod_eq_emod_of_nonneg h0]
      have h1 := Int.emod_nonneg (IntKind.u64.wrap at_) haz0
      have h2 := Int.emod_lt_of_pos (IntKind.u64.wrap at_) (show (0 : Int) < (az.length : Int) by omega)
      exact ⟨((IntKind.u64.wrap at_) % (az.length : Int)).toNat, by unfold wrap64; omega, by omega⟩
    rw [hk]
    clear hk
    refine (methodOf_any _ _ HS.out).mono ?_
    intro e w6 h6
    obtain ⟨v6, rfl, ho6⟩ : ∃ v, e = .returned (.tuple #[v, .string (bs g), .bool true]) ∧ Out w5 w6 9 1 v ts.length (ts.map sv) := by
      unfold MethodSaid at h6
      rw [show (bs R.2).data.toList = R.2 from rfl, HM.out] at h6
      exact h6
    have H16 := hid (H15.out.trans (ho6.below.mono H15.out.size))
    have HB6 := hid (HB5.out.trans (ho6.below.mono HB5.out.size))
    obtain ⟨x0, x1, x2, x3, x4⟩ := HX.out _ H16.out
    have HTS := hid ho6.sl
    obtain ⟨a6, c6, rfl⟩ := HTS.out.val
    clear h6 ho6
    have hl0 : ((ts.length : Int) == (az.length : Int)) = true := by simp [HL.out]
    have hl1 : ((ts.length : Int) != (az.length : Int)) = false := by simp [HL.out]
    have hkt : k < ts.length := by have := HL.out; omega
    obtain ⟨bt, ot, rfl, hct0⟩ := sl_sv HTS.out hkt
    have hk0 : (0 : Int) ≤ (k : Int) := by omega
    have hk2 : (k : Int) < (ts.length : Int) := by omega
    have hk3 : (k : Int) < (az.length : Int) := by omega
    obtain ⟨T0, hT0⟩ : ∃ T0, bs ts[k] = T0 := ⟨_, rfl⟩
    have hct : w6.cell? ⟨bt, ot + k, none⟩ = some (.string T0) := by rw [← hT0]; exact hct0
    clear hct0
    have HT0 := hid hT0
    have HAZ6 := hid (HAZ0.out.below HB6.out)
    obtain ⟨by_, oy, hay, hcy⟩ := Sl.ints (K := .i64) HAZ6.out hkn
    cases hay
    clear hT0
    by_cases hij : isIJ ts[k]
    · have HIJ := hid hij
      have hFF := HAZ6.out.take k (by omega)
      have hBB := HAZ6.out.drop (k + 1) (by omega)
      rw [Nat.mul_one] at hFF hBB
      obtain ⟨_, hcap⟩ := HAZ6.out.cap
      have k2 : (0 : Int) ≤ (k : Int) := by omega
      have k3 : (k : Int) ≤ (ca : Int) := by omega
      have k4 : (k : Int) + 1 ≤ (az.length : Int) := by omega
      have k5 : (0 : Int) ≤ (k : Int) + 1 := by omega
      have k7 : ((k : Int) + 1).toNat = k + 1 := by omega
      have k8 : IntKind.i64.wrap ((k : Int) + 1) = (k : Int) + 1 := by rw [IntKind.wrap_i64]; omega
      have k6 : (az.length : Int) ≤ (ca : Int) := by omega
      obtain ⟨v2, hv2, hB2⟩ : ∃ v2, Value.slice (if ca = k + 1 then some ⟨by_, oy, none⟩ else some ⟨by_, oy + (k + 1), none⟩) (az.length - (k + 1)) (ca - (k + 1)) = v2 ∧ Sl w6 v2 (az.length - (k + 1)) 1 ((az.map iv).drop (k + 1)) := ⟨_, rfl, by
        by_cases h : ca = k + 1
        · rw [if_pos h] at hBB ⊢; exact hBB
        · rw [if_neg h] at hBB ⊢; simpa [Addr.add_lit] using hBB⟩
      have hM := Out.made w6 3 1
      have HFF := hid hFF; have HBB := hid hB2
      have HMD := hid hM.drew
      have HFD := hid (hFF.below hM.drew.below)
      have O1 : Hid (∀ u ∈ (az.map iv).take k, u.oneCell' = true) := hid (fun u hu => by obtain ⟨q, _, rfl⟩ := List.mem_map.1 (List.mem_of_mem_take hu); rfl)
      have O2 : Hid (∀ u ∈ (az.map iv).drop (k + 1), u.oneCell' = true) := hid (fun u hu => by obtain ⟨q, _, rfl⟩ := List.mem_map.1 (List.mem_of_mem_drop hu); rfl)
      have hLE : (az.eraseIdx k).length = k + (az.length - (k + 1)) := by rw [List.length_eraseIdx_of_lt hkn]; omega
      have HLE := hid hLE
      have HEC : Hid ((az.map iv).take k ++ (az.map iv).drop (k + 1) = (az.eraseIdx k).map iv) := hid (by rw [← List.map_take, ← List.map_drop, ← List.map_append, List.eraseIdx_eq_take_drop_succ])
      clear hFF hBB hB2 hM hLE
      rcases hij with e | e
      · have f1 : (T0.toList == [73]) = true := by rw [← HT0.out, e, ByteArray.toList_eq]; rfl
        have f2 : T0.toList = [73] := by simpa using f1
        clear e
        go_wp2_with fail
        go_region_law (first | refine step_append_src w6 _ rfl _ _ 22 rfl 3 (.int .i64 0) 1 8 k Tryd.underlying22 infoI2 rfl (by decide) _ _ _ HMD.out rfl _ _ HFD.out rfl O1.out (by omega) (by omega) (fun v7 w7 ho7 hg7 => ?_) | refine step_append_src w6 _ rfl _ _ 22 rfl 3 (.int .i64 0) 1 8 (az.length - (k + 1)) Tryd.underlying22 infoI2 rfl (by decide) _ _ _ ho7 rfl _ _ (HBB.out.below ho7.below) rfl O2.out (by omega) (by omega) (fun v8 w8 ho8 hg8 => ?_))
        have HO8 : Hid (Out w6 w8 3 1 v8 (az.eraseIdx k).length ((az.eraseIdx k).map iv)) := hid (by rw [← HEC.out, HLE.out]; simpa using ho8)
        have H18 := hid (H16.out.trans (HO8.out.below.mono H16.out.size))
        have HB8 := hid (HB6.out.trans (HO8.out.below.mono HB6.out.size))
        have HTS8 := hid (HTS.out.below HO8.out.below)
        have HAZ8 := hid (HAZ0.out.below HB8.out)
        have L8 := hid HO8.out.sl
        have hctw : w8.cell? ⟨bt, ot + k, none⟩ = some (.string T0) := (HO8.out.below.cell (World.block_lt_of_cell? _ _ hct)).trans hct
        have hctb : bt < w8.heap.size := World.block_lt_of_cell? _ _ hctw
        have hcyw : w8.cell? ⟨by_, oy + k, none⟩ = some (.int .i64 az[k]) := (HO8.out.below.cell (World.block_lt_of_cell? _ _ hcy)).trans hcy
        have hcyb : by_ < w8.heap.size := World.block_lt_of_cell? _ _ hcyw
        obtain ⟨x0, x1, x2, x3, x4⟩ := HX.out _ H18.out
        clear ho7 hg7 ho8 hg8
        obtain ⟨a8, c8, rfl⟩ := L8.out.val
        obtain ⟨zk, hzk⟩ : ∃ zk, az[k] = zk := ⟨_, rfl⟩
        have HLAW1 : Hid (∀ vs, callW (pairN 5 k x ⟨1, T0, zk, .slice none 0 0, .slice none 0 0, [], .nil⟩ vs) (az.eraseIdx k) = (0, n)) := hid (fun vs => by
          have h := binds_bind HCALL.out HMX.out HC20.out hkt rfl HIJ.out vs
          rw [HT0.out, show az.getD k 0 = zk from by simp [List.getD, List.getElem?_eq_getElem hkn, hzk]] at h
          exact h)
        have HLAW2 : Hid (∀ vs, callW (pairN 7 k x ⟨2, T0, 0, .slice none 0 0, .slice none 0 0, [], .nil⟩ vs) az = (0, n)) := hid (fun vs => by
          have h := binds_filter HCALL.out HMX.out HC20.out hkt rfl HIJ.out vs
          rw [HT0.out] at h
          exact h)
        have HSHP : Hid (∀ (p q m : Int) (v : Value), ShortN (pairN p k x ⟨q, T0, m, .slice none 0 0, .slice none 0 0, [], .nil⟩ v)) := hid (fun p q m v => ⟨by show noT.size ≤ 10000000; decide, HSN.out.1, HSN.out.2, by show T0.size ≤ 10000000; rw [← HT0.out]; rcases HIJ.out with e | e <;> rw [e] <;> decide, trivial, trivial⟩)
        have HCNP : Hid (∀ (p q m : Int) (v : Value), cnt (pairN p k x ⟨q, T0, m, .slice none 0 0, .slice none 0 0, [], .nil⟩ v) ≤ 1000000000000) := hid (fun p q m v => by
          rw [cnt_pair]
          have h1 := HC20.out
          have h2 : cnt ⟨q, T0, m, .slice none 0 0, .slice none 0 0, [], .nil⟩ = 1 := rfl
          omega)
        rw [hzk] at hcyw
        clear hzk
        go_simp
        go_wp2_with fail
        refine wp_region_ext [(11, rows2 x (.slice a1 n1 c1) (.slice a2 n2 c2) 1 T0 zk), (12, pairR 5 k x (.slice a1 n1 c1) (.slice a2 n2 c2) 1 T0 zk), (14, is (.tuple #[.int .i64 n, .nilIface]))] ⟨rows2_stays _ _ _ _ _ _, pairR_stays _ _ _ _ _ _ _ _, is_stays _, trivial⟩ (by kernel_rfl) (by kernel_rfl) ?_
        refine wpG_calc 1 rfl rfl rfl (fun u => by go_simp; rfl) ?_
        simp only [Act.put, List.setIfInBounds_toArray, List.set_cons_zero, List.set_cons_succ]
        refine wpG_read 2 rfl rfl (.agg #[.int .i64 k0, .string t, .int .i64 a, .slice a1 n1 c1, .slice a2 n2 c2]) rfl ?_ ?_
        · intro u hu hh
          obtain ⟨y0, y1, y2, y3, y4⟩ := HX.out u (H18.out.trans (hu.mono H18.out.size))
          go_simp
        simp only [Act.put, List.setIfInBounds_toArray, List.set_cons_zero, List.set_cons_succ]
        refine wpG_calc 3 rfl rfl rfl (fun u => by go_simp; rfl) ?_
        simp only [Act.put, List.setIfInBounds_toArray, List.set_cons_zero, List.set_cons_succ]
        refine wpG_calc 4 rfl rfl rfl (fun u => by go_simp; rfl) ?_
        simp only [Act.put, List.setIfInBounds_toArray, List.set_cons_zero, List.set_cons_succ]
        refine wpG_calc 5 rfl rfl rfl (fun u => by go_simp; rfl) ?_
        simp only [Act.put, List.setIfInBounds_toArray, List.set_cons_zero, List.set_cons_succ]
        refine wpG_read 6 rfl rfl (.string T0) rfl ?_ ?_
        · intro u hu hh
          have hct2 := (hu.cell hctb).trans hctw
          go_simp
        simp only [Act.put, List.setIfInBounds_toArray, List.set_cons_zero, List.set_cons_succ]
        refine wpG_calc 7 rfl rfl rfl (fun u => by go_simp; rfl) ?_
        simp only [Act.put, List.setIfInBounds_toArray, List.set_cons_zero, List.set_cons_succ]
        refine wpG_calc 8 rfl rfl rfl (fun u => by go_simp; rfl) ?_
        simp only [Act.put, List.setIfInBounds_toArray, List.set_cons_zero, List.set_cons_succ]
        refine wpG_calc 9 rfl rfl rfl (fun u => by go_simp; rfl) ?_
        simp only [Act.put, List.setIfInBounds_toArray, List.set_cons_zero, List.set_cons_succ]
        refine wpG_read 10 rfl rfl (.int .i64 (zk)) rfl ?_ ?_
        · intro u hu hh
          have hcy2 := (hu.cell hcyb).trans hcyw
          go_simp
        simp only [Act.put, List.setIfInBounds_toArray, List.set_cons_zero, List.set_cons_succ]
        refine wpG_calc 11 rfl rfl rfl (fun u => by go_simp; rfl) ?_
        simp only [Act.put, List.setIfInBounds_toArray, List.set_cons_zero, List.set_cons_succ]
        refine wpG_rel 12 rfl rfl rfl ?_ ?_
        · intro u hu hh
          go_simp
          exact ⟨⟨_, rfl, by rw [HNX.out.1, HNX.out.2.1, HNX.out.2.2.1]; exact heap_alloc_new _ _⟩, ext_alloc _ _⟩
        intro vS ⟨uS, _, hrS⟩
        obtain ⟨gS, rfl, -⟩ := hrS
        simp only [Act.put, List.setIfInBounds_toArray, List.set_cons_zero, List.set_cons_succ]
        refine wpG_rel 13 rfl rfl rfl ?_ ?_
        · intro u hu hh
          have hs5 : rows2 x (.slice a1 n1 c1) (.slice a2 n2 c2) 1 T0 zk (.slice (some ⟨gS, 0, none⟩) 2 2) u := hh 11 rfl
          go_simp
          exact ⟨⟨gS, rfl, hs5⟩, Below.refl _ _⟩
        intro vG ⟨uG, _, hrG⟩
        obtain ⟨gS2, rfl, -⟩ := hrG
        simp only [Act.put, List.setIfInBounds_toArray, List.set_cons_zero, List.set_cons_succ]
        refine wpG_calc 14 rfl rfl rfl (fun u => by go_simp; rfl) ?_
        simp only [Act.put, List.setIfInBounds_toArray, List.set_cons_zero, List.set_cons_succ]
        refine wpG_rel 15 rfl rfl rfl ?_ ?_
        · intro u hu hh
          obtain ⟨gS3, hs6, hs7⟩ : pairR 5 k x (.slice a1 n1 c1) (.slice a2 n2 c2) 1 T0 zk _ u := hh 12 rfl
          cases hs6
          have HBu := hid (HB8.out.trans (hu.mono HB8.out.size))
          have HNT : Hid (NAt u (pairN 5 k x ⟨1, T0, zk, .slice none 0 0, .slice none 0 0, [], .nil⟩ (.slice (some ⟨gS2, 0, none⟩) 2 2))) := hid (pair_at (HXN.out.below HBu.out) (by rw [HNX.out.2.2.2.1, HNX.out.2.2.2.2]; exact hs7))
          clear hs7
          go_simp
          refine (call_any (pairN 5 k x ⟨1, T0, zk, .slice none 0 0, .slice none 0 0, [], .nil⟩ (.slice (some ⟨gS2, 0, none⟩) 2 2)) _ (az.eraseIdx k) u HNT.out (HSHP.out 5 1 zk _) (HCNP.out 5 1 zk _) (L8.out.below hu) (by have := HLE.out; omega)).mono ?_
          rw [HLAW1.out]
          rintro e w9 ⟨rfl, hb9⟩
          exact ⟨_, rfl, rfl, hb9⟩
        intro vC ⟨uC, _, hrC⟩
        obtain rfl : vC = .tuple #[.int .i64 n, .nilIface] := hrC
        simp only [Act.put, List.setIfInBounds_toArray, List.set_cons_zero, List.set_cons_succ]
        refine wpG_calc 16 rfl rfl rfl (fun u => by go_simp; rfl) ?_
        simp only [Act.put, List.setIfInBounds_toArray, List.set_cons_zero, List.set_cons_succ]
        refine wpG_calc 17 rfl rfl rfl (fun u => by go_simp; rfl) ?_
        simp only [Act.put, List.setIfInBounds_toArray, List.set_cons_zero, List.set_cons_succ]
        refine wpG_calc 18 rfl rfl rfl (fun u => by go_simp; rfl) ?_
        simp only [Act.put, List.setIfInBounds_toArray, List.set_cons_zero, List.set_cons_succ]
        refine wpG_calc 19 rfl rfl rfl (fun u => by go_simp; rfl) ?_
        simp only [Act.put, List.setIfInBounds_toArray, List.set_cons_zero, List.set_cons_succ]
        refine wpG_calc 20 rfl rfl rfl (fun u => by go_simp; rfl) ?_
        simp only [Act.put, List.setIfInBounds_toArray, List.set_cons_zero, List.set_cons_succ]
        refine wpG_nil fun wa hbwa hF => ?_
        clear hF
        have H1a := hid (H18.out.trans (hbwa.mono H18.out.size))
        have HBa := hid (HB8.out.trans (hbwa.mono HB8.out.size))
        have HAZa := hid (HAZ0.out.below HBa.out)
        have hctw : wa.cell? ⟨bt, ot + k, none⟩ = some (.string T0) := (hbwa.cell hctb).trans hctw
        have hctb : bt < wa.heap.size := World.block_lt_of_cell? _ _ hctw
        obtain ⟨x0, x1, x2, x3, x4⟩ := HX.out _ H1a.out
        clear hbwa
        go_wp2_with fail
        refine wp_region_ext [(7, rows2 x (.slice a1 n1 c1) (.slice a2 n2 c2) 2 T0 0), (8, pairR 7 k x (.slice a1 n1 c1) (.slice a2 n2 c2) 2 T0 0), (10, is (.tuple #[.int .i64 n, .nilIface]))] ⟨rows2_stays _ _ _ _ _ _, pairR_stays _ _ _ _ _ _ _ _, is_stays _, trivial⟩ (by kernel_rfl) (by kernel_rfl) ?_
        refine wpG_calc 1 rfl rfl rfl (fun u => by go_simp; rfl) ?_
        simp only [Act.put, List.setIfInBounds_toArray, List.set_cons_zero, List.set_cons_succ]
        refine wpG_read 2 rfl rfl (.agg #[.int .i64 k0, .string t, .int .i64 a, .slice a1 n1 c1, .slice a2 n2 c2]) rfl ?_ ?_
        · intro u hu hh
          obtain ⟨y0, y1, y2, y3, y4⟩ := HX.out u (H1a.out.trans (hu.mono H1a.out.size))
          go_simp
        simp only [Act.put, List.setIfInBounds_toArray, List.set_cons_zero, List.set_cons_succ]
        refine wpG_calc 3 rfl rfl rfl (fun u => by go_simp; rfl) ?_
        simp only [Act.put, List.setIfInBounds_toArray, List.set_cons_zero, List.set_cons_succ]
        refine wpG_calc 4 rfl rfl rfl (fun u => by go_simp; rfl) ?_
        simp only [Act.put, List.setIfInBounds_toArray, List.set_cons_zero, List.set_cons_succ]
        refine wpG_calc 5 rfl rfl rfl (fun u => by go_simp; rfl) ?_
        simp only [Act.put, List.setIfInBounds_toArray, List.set_cons_zero, List.set_cons_succ]
        refine wpG_read 6 rfl rfl (.string T0) rfl ?_ ?_
        · intro u hu hh
          have hct2 := (hu.cell hctb).trans hctw
          go_simp
        simp only [Act.put, List.setIfInBounds_toArray, List.set_cons_zero, List.set_cons_succ]
        refine wpG_calc 7 rfl rfl rfl (fun u => by go_simp; rfl) ?_
        simp only [Act.put, List.setIfInBounds_toArray, List.set_cons_zero, List.set_cons_succ]
        refine wpG_rel 8 rfl rfl rfl ?_ ?_
        · intro u hu hh
          go_simp
          exact ⟨⟨_, rfl, by rw [HNX.out.1, HNX.out.2.1, HNX.out.2.2.1]; exact heap_alloc_new _ _⟩, ext_alloc _ _⟩
        intro vS ⟨uS, _, hrS⟩
        obtain ⟨gS, rfl, -⟩ := hrS
        simp only [Act.put, List.setIfInBounds_toArray, List.set_cons_zero, List.set_cons_succ]
        refine wpG_rel 9 rfl rfl rfl ?_ ?_
        · intro u hu hh
          have hs5 : rows2 x (.slice a1 n1 c1) (.slice a2 n2 c2) 2 T0 0 (.slice (some ⟨gS, 0, none⟩) 2 2) u := hh 7 rfl
          go_simp
          exact ⟨⟨gS, rfl, hs5⟩, Below.refl _ _⟩
        intro vG ⟨uG, _, hrG⟩
        obtain ⟨gS2, rfl, -⟩ := hrG
        simp only [Act.put, List.setIfInBounds_toArray, List.set_cons_zero, List.set_cons_succ]
        refine wpG_calc 10 rfl rfl rfl (fun u => by go_simp; rfl) ?_
        simp only [Act.put, List.setIfInBounds_toArray, List.set_cons_zero, List.set_cons_succ]
        refine wpG_rel 11 rfl rfl rfl ?_ ?_
        · intro u hu hh
          obtain ⟨gS3, hs6, hs7⟩ : pairR 7 k x (.slice a1 n1 c1) (.slice a2 n2 c2) 2 T0 0 _ u := hh 8 rfl
          cases hs6
          have HBu := hid (HBa.out.trans (hu.mono HBa.out.size))
          have HNT : Hid (NAt u (pairN 7 k x ⟨2, T0, 0, .slice none 0 0, .slice none 0 0, [], .nil⟩ (.slice (some ⟨gS2, 0, none⟩) 2 2))) := hid (pair_at (HXN.out.below HBu.out) (by rw [HNX.out.2.2.2.1, HNX.out.2.2.2.2]; exact hs7))
          clear hs7
          go_simp
          refine (call_any (pairN 7 k x ⟨2, T0, 0, .slice none 0 0, .slice none 0 0, [], .nil⟩ (.slice (some ⟨gS2, 0, none⟩) 2 2)) _ az u HNT.out (HSHP.out 7 2 0 _) (HCNP.out 7 2 0 _) (HAZa.out.below hu) (by have := HLE.out; omega)).mono ?_
          rw [HLAW2.out]
          rintro e w9 ⟨rfl, hb9⟩
          exact ⟨_, rfl, rfl, hb9⟩
        intro vC ⟨uC, _, hrC⟩
        obtain rfl : vC = .tuple #[.int .i64 n, .nilIface] := hrC
        simp only [Act.put, List.setIfInBounds_toArray, List.set_cons_zero, List.set_cons_succ]
        refine wpG_calc 12 rfl rfl rfl (fun u => by go_simp; rfl) ?_
        simp only [Act.put, List.setIfInBounds_toArray, List.set_cons_zero, List.set_cons_succ]
        refine wpG_calc 13 rfl rfl rfl (fun u => by go_simp; rfl) ?_
        simp only [Act.put, List.setIfInBounds_toArray, List.set_cons_zero, List.set_cons_succ]
        refine wpG_calc 14 rfl rfl rfl (fun u => by go_simp; rfl) ?_
        simp only [Act.put, List.setIfInBounds_toArray, List.set_cons_zero, List.set_cons_succ]
        refine wpG_calc 15 rfl rfl rfl (fun u => by go_simp; rfl) ?_
        simp only [Act.put, List.setIfInBounds_toArray, List.set_cons_zero, List.set_cons_succ]
        refine wpG_calc 16 rfl rfl rfl (fun u => by go_simp; rfl) ?_
        simp only [Act.put, List.setIfInBounds_toArray, List.set_cons_zero, List.set_cons_succ]
        refine wpG_nil fun wb hbwb hF => ?_
        clear hF
        have H1b := hid (H1a.out.trans (hbwb.mono H1a.out.size))
        have HBb := hid (HBa.out.trans (hbwb.mono HBa.out.size))
        have HAZb := hid (HAZ0.out.below HBb.out)
        obtain ⟨x0, x1, x2, x3, x4⟩ := HX.out _ H1b.out
        clear hbwb
        go_wp2_with fail
        refine (wrap_any _ _ HIN.out).mono ?_
        rintro e wd ⟨rfl, rfl⟩
        go_wp2_with fail
        obtain ⟨xc, hxc⟩ : ∃ xc, wrap32 cc = xc := ⟨_, rfl⟩
        simp only [hxc]
        have HLAW3 : Hid (∀ vs, callW (putN k x vs) (insAt az k xc) = (0, n) ∨ callW (putN k x vs) (insAt az k xc) = (4, 0)) := hid (fun vs => by
          have h := binds_put HCALL.out HMX.out HC20.out hkt cc vs
          rw [hxc] at h
          exact h)
        clear hxc
        obtain ⟨TG, hTG⟩ : ∃ TG, (insAt az k xc).map iv = TG := ⟨_, rfl⟩
        have hil : (insAt az k xc).length = az.length + 1 := insAt_len xc (by omega)
        have hget : ∀ j, TG[j]? = if j < k then (az.map iv)[j]? else if j = k then some (iv xc) else (az.map iv)[j - 1]? := fun j => by
          rw [← hTG, List.getElem?_map, insAt_get az k xc (by omega)]
          by_cases h1 : j < k
          · rw [if_pos h1, if_pos h1, List.getElem?_map]
          · rw [if_neg h1, if_neg h1]
            by_cases h2 : j = k
            · rw [if_pos h2, if_pos h2]; rfl
            · rw [if_neg h2, if_neg h2, List.getElem?_map]
        have HTL : Hid (k + 1 + (az.length - k) ≤ TG.length) := hid (by rw [← hTG, List.length_map, hil]; omega)
        have HSLF : Hid (∀ (v : Value) (u : World), Sl u v (k + 1 + (az.length - k)) 1 (TG.take (k + 1 + (az.length - k))) → Sl u v (insAt az k xc).length 1 ((insAt az k xc).map iv)) := hid (fun v u h => by
          have e1 : k + 1 + (az.length - k) = (insAt az k xc).length := by rw [hil]; omega
          rw [e1] at h
          have e2 : TG.length = (insAt az k xc).length := by rw [← hTG, List.length_map]
          rw [← e2, List.take_length, e2] at h
          rw [hTG]; exact h)
        have HIL : Hid ((insAt az k xc).length ≤ 1000000000000) := hid (by rw [hil]; omega)
        have HCELL : Hid (∀ u, Below wb.heap.size wb u → ∀ j (hj : j < az.length), u.cell? ⟨by_, oy + j, none⟩ = some (.int .i64 az[j])) := hid (fun u hu j hj => by
          obtain ⟨b', o', he, hc⟩ := Sl.ints (K := .i64) (HAZb.out.below hu) hj
          cases he; exact hc)
        have HL8 : Hid (((az.take k).map iv).length = k) := hid (by rw [List.length_map, List.length_take]; omega)
        have HL15 : Hid (((az.drop k).map iv).length = az.length - k) := hid (by rw [List.length_map, List.length_drop])
        have HO8a : Hid (∀ q ∈ (az.take k).map iv, q.oneCell' = true) := hid (fun q hq => by obtain ⟨y, _, rfl⟩ := List.mem_map.1 hq; rfl)
        have HO15 : Hid (∀ q ∈ (az.drop k).map iv, q.oneCell' = true) := hid (fun q hq => by obtain ⟨y, _, rfl⟩ := List.mem_map.1 hq; rfl)
        have HN8 : Hid (∀ u, Below wb.heap.size wb u → ∀ j q, ((az.take k).map iv)[j]? = some q → u.cell? ((⟨by_, oy, none⟩ : Addr).add j) = some q) := hid (fun u hu j q hj => by
          rw [List.getElem?_map, List.getElem?_take] at hj
          by_cases hjk : j < k
          · rw [if_pos hjk, List.getElem?_eq_getElem (by omega)] at hj
            rw [Addr.add_lit, HCELL.out u hu j (by omega)]
            exact hj
          · rw [if_neg hjk] at hj; cases hj)
        have HN15 : Hid (∀ u, Below wb.heap.size wb u → ∀ j q, ((az.drop k).map iv)[j]? = some q → u.cell? ((⟨by_, oy + k, none⟩ : Addr).add j) = some q) := hid (fun u hu j q hj => by
          rw [List.getElem?_map, List.getElem?_drop] at hj
          by_cases hjk : k + j < az.length
          · rw [List.getElem?_eq_getElem hjk] at hj
            rw [Addr.add_lit, Nat.add_assoc, HCELL.out u hu (k + j) hjk]
            exact hj
          · rw [List.getElem?_eq_none (by omega)] at hj; cases hj)
        have HT8 : Hid (∀ j, j < k → ((az.take k).map iv)[j]? = TG[0 + j]?) := hid (fun j hj => by
          rw [Nat.zero_add, hget, if_pos hj, List.getElem?_map, List.getElem?_take, if_pos hj, List.getElem?_map])
        have HT11 : Hid (∀ j, j < 1 → [Value.int .i64 xc][j]? = TG[k + j]?) := hid (fun j hj => by
          obtain rfl : j = 0 := by omega
          rw [hget, if_neg (by omega), if_pos (by omega)]; rfl)
        have HT15 : Hid (∀ j, j < az.length - k → ((az.drop k).map iv)[j]? = TG[k + 1 + j]?) := hid (fun j hj => by
          rw [hget, if_neg (by omega), if_neg (by omega), List.getElem?_map, List.getElem?_map, List.getElem?_drop]
          congr 2; omega)
        have HQK : Hid (TG[k]? = some (.int .i64 xc)) := hid (by rw [hget, if_neg (by omega), if_pos rfl]; rfl)
        have HSHQ : Hid (∀ v, ShortN (putN k x v)) := hid (fun v => ⟨by show (⟨#[73]⟩ : ByteArray).size ≤ 10000000; decide, HSN.out.1, HSN.out.2, trivial⟩)
        have HCNQ : Hid (∀ v, cnt (putN k x v) ≤ 1000000000000) := hid (fun v => by rw [cnt_put]; have := HC20.out; omega)
        have hcak : ¬ ca = k := by omega
        clear hget hTG hil
        refine wp_region_tgt 3 k TG [(2, row1 x (.slice a1 n1 c1) (.slice a2 n2 c2)), (3, putR k x (.slice a1 n1 c1) (.slice a2 n2 c2)), (4, OwnP wb.heap.size 3 TG 0 true), (8, OwnP wb.heap.size 3 TG k false), (10, OneP wb.heap.size 3 (.int .i64 xc)), (11, OwnP wb.heap.size 3 TG (k + 1) false), (15, OwnP wb.heap.size 3 TG (k + 1 + (az.length - k)) false), (16, orFull n)] ⟨row1_stE _ _ _, putR_stE _ _ _ _, ownP_stays, ownP_stays, oneP_stays HQK.out, ownP_stays, ownP_stays, fun _ _ _ _ h => h, trivial⟩ (by kernel_rfl) (by kernel_rfl) ?_
        refine wpG_calc 1 rfl rfl rfl (fun u => by go_simp; rfl) ?_
        simp only [Act.put, List.setIfInBounds_toArray, List.set_cons_zero, List.set_cons_succ]
        refine wpG_read 2 rfl rfl (.agg #[.int .i64 k0, .string t, .int .i64 a, .slice a1 n1 c1, .slice a2 n2 c2]) rfl ?_ ?_
        · intro u hu hh
          obtain ⟨y0, y1, y2, y3, y4⟩ := HX.out u (H1b.out.trans (hu.mono H1b.out.size))
          go_simp
        simp only [Act.put, List.setIfInBounds_toArray, List.set_cons_zero, List.set_cons_succ]
        refine wpG_rel 3 rfl rfl rfl ?_ ?_
        · intro u hu hh
          go_simp
          exact ⟨⟨_, rfl, by rw [HNX.out.1, HNX.out.2.1, HNX.out.2.2.1]; exact heap_alloc_new _ _⟩, Ext.of_below (ext_alloc _ _) hu.size⟩
        intro vS ⟨uS, _, hrS⟩
        obtain ⟨gS, rfl, -⟩ := hrS
        simp only [Act.put, List.setIfInBounds_toArray, List.set_cons_zero, List.set_cons_succ]
        refine wpG_rel 4 rfl rfl rfl ?_ ?_
        · intro u hu hh
          have hs5 : row1 x (.slice a1 n1 c1) (.slice a2 n2 c2) (.slice (some ⟨gS, 0, none⟩) 1 1) u := hh 2 rfl
          go_simp
          exact ⟨⟨gS, rfl, hs5⟩, Ext.refl _⟩
        intro vG ⟨uG, _, hrG⟩
        obtain ⟨gS2, rfl, -⟩ := hrG
        simp only [Act.put, List.setIfInBounds_toArray, List.set_cons_zero, List.set_cons_succ]
        refine wpG_rel 5 rfl rfl rfl ?_ ?_
        · intro u hu hh
          go_simp
          exact ⟨ownP_made _ hu.size, Ext.of_below (ext_alloc _ _) hu.size⟩
        intro vM ⟨uM, _, hrM⟩
        obtain ⟨gM, curM, rfl, -⟩ := hrM
        obtain ⟨cM, hcM⟩ : ∃ cM, curM.size = cM := ⟨_, rfl⟩
        rw [hcM]
        clear hcM
        simp only [Act.put, List.setIfInBounds_toArray, List.set_cons_zero, List.set_cons_succ]
        refine wpG_calc 6 rfl rfl rfl (fun u => by go_simp; rfl) ?_
        simp only [Act.put, List.setIfInBounds_toArray, List.set_cons_zero, List.set_cons_succ]
        refine wpG_calc 7 rfl rfl rfl (fun u => by go_simp; rfl) ?_
        simp only [Act.put, List.setIfInBounds_toArray, List.set_cons_zero, List.set_cons_succ]
        refine wpG_calc 8 rfl rfl rfl (fun u => by go_simp; rfl) ?_
        simp only [Act.put, List.setIfInBounds_toArray, List.set_cons_zero, List.set_cons_succ]
        refine wpG_rel 9 rfl rfl rfl ?_ ?_
        · intro u hu hh
          obtain ⟨v', u', hr, h5, h6⟩ := append_tgt (k := k) (tg := TG) (m := 0) (l := k) (z := .int .i64 0) (bytes := 8) (P := Tryd.prog) (t := 22) Tryd.underlying22 infoI2 rfl 22 (hh 4 rfl) hu.size ⟨by_, oy, none⟩ ca _ HL8.out (HN8.out u hu) HO8a.out HT8.out (.inr rfl) (by omega) (by decide)
          rw [Nat.zero_add] at h5
          exact grow_append rfl rfl rfl hr ⟨h5, h6⟩
        intro vA ⟨uA, _, hrA⟩
        obtain ⟨gA, curA, rfl, -⟩ := hrA
        obtain ⟨cA, hcA⟩ : ∃ cA, curA.size = cA := ⟨_, rfl⟩
        rw [hcA]
        clear hcA
        simp only [Act.put, List.setIfInBounds_toArray, List.set_cons_zero, List.set_cons_succ]
        refine wpG_calc 10 rfl rfl rfl (fun u => by go_simp; rfl) ?_
        simp only [Act.put, List.setIfInBounds_toArray, List.set_cons_zero, List.set_cons_succ]
        refine wpG_rel 11 rfl rfl rfl ?_ ?_
        · intro u hu hh
          go_simp
          exact ⟨⟨_, rfl, hu.size, heap_alloc_new _ _⟩, Ext.of_below (ext_alloc _ _) hu.size⟩
        intro vO ⟨uO, _, hrO⟩
        obtain ⟨gO, rfl, -⟩ := hrO
        simp only [Act.put, List.setIfInBounds_toArray, List.set_cons_zero, List.set_cons_succ]
        refine wpG_rel 12 rfl rfl rfl ?_ ?_
        · intro u hu hh
          obtain ⟨gO2, heO, -, hrow⟩ : OneP wb.heap.size 3 (.int .i64 xc) (.slice (some ⟨gO, 0, none⟩) 1 1) u := hh 10 rfl
          cases heO
          obtain ⟨v', u', hr, h5, h6⟩ := append_tgt (k := k) (tg := TG) (m := k) (l := 1) (z := .int .i64 0) (bytes := 8) (P := Tryd.prog) (t := 22) Tryd.underlying22 infoI2 rfl 22 (hh 8 rfl) hu.size ⟨gO, 0, none⟩ 1 [.int .i64 xc] rfl (fun j q hj => by rw [Addr.add_lit, Nat.zero_add, cell_of_row _ _ _ _ _ _ hrow]; simpa using hj) (fun q hq => by obtain rfl := List.mem_singleton.1 hq; rfl) HT11.out (.inl (by omega)) (by omega) (by decide)
          exact grow_append rfl rfl rfl hr ⟨h5, h6⟩
        intro vB ⟨uB, _, hrB⟩
        obtain ⟨gB, curB, rfl, -⟩ := hrB
        obtain ⟨cB, hcB⟩ : ∃ cB, curB.size = cB := ⟨_, rfl⟩
        rw [hcB]
        clear hcB
        simp only [Act.put, List.setIfInBounds_toArray, List.set_cons_zero, List.set_cons_succ]
        refine wpG_calc 13 rfl rfl rfl (fun u => by go_simp; rfl) ?_
        simp only [Act.put, List.setIfInBounds_toArray, List.set_cons_zero, List.set_cons_succ]
        refine wpG_calc 14 rfl rfl rfl (fun u => by go_simp; rfl) ?_
        simp only [Act.put, List.setIfInBounds_toArray, List.set_cons_zero, List.set_cons_succ]
        refine wpG_calc (v := .slice (some ⟨by_, oy + k, none⟩) (az.length - k) (ca - k)) 15 rfl rfl rfl (fun u => by go_simp; intro hbad; omega) ?_
        simp only [Act.put, List.setIfInBounds_toArray, List.set_cons_zero, List.set_cons_succ]
        refine wpG_rel 16 rfl rfl rfl ?_ ?_
        · intro u hu hh
          obtain ⟨v', u', hr, h5, h6⟩ := append_tgt (k := k) (tg := TG) (m := k + 1) (l := az.length - k) (z := .int .i64 0) (bytes := 8) (P := Tryd.prog) (t := 22) Tryd.underlying22 infoI2 rfl 22 (hh 11 rfl) hu.size ⟨by_, oy + k, none⟩ (ca - k) _ HL15.out (HN15.out u hu) HO15.out HT15.out (.inl (by omega)) (by omega) (by decide)
          exact grow_append rfl rfl rfl hr ⟨h5, h6⟩
        intro vD ⟨uD, _, hrD⟩
        obtain ⟨gD, curD, rfl, -⟩ := hrD
        obtain ⟨cD, hcD⟩ : ∃ cD, curD.size = cD := ⟨_, rfl⟩
        rw [hcD]
        clear hcD
        simp only [Act.put, List.setIfInBounds_toArray, List.set_cons_zero, List.set_cons_succ]
        refine wpG_rel 17 rfl rfl rfl ?_ ?_
        · intro u hu hh
          obtain ⟨gS3, hs6, hs7⟩ : putR k x (.slice a1 n1 c1) (.slice a2 n2 c2) _ u := hh 3 rfl
          cases hs6
          have hown : OwnP wb.heap.size 3 TG (k + 1 + (az.length - k)) false _ u := hh 15 rfl
          have HBu := hid (HBb.out.trans (hu.mono HBb.out.size))
          have HNT : Hid (NAt u (putN k x (.slice (some ⟨gS2, 0, none⟩) 1 1))) := hid (put_at (HXN.out.below HBu.out) (by
            have h := row1_sl (x := x) (u := u) (v := .slice (some ⟨gS2, 0, none⟩) 1 1) (by rw [HNX.out.2.2.2.1, HNX.out.2.2.2.2]; exact hs7)
            exact h))
          have HSL : Hid (Sl u (.slice (some ⟨gD, 0, none⟩) (k + 1 + (az.length - k)) cD) (insAt az k xc).length 1 ((insAt az k xc).map iv)) := hid (HSLF.out _ _ (hown.sl HTL.out))
          clear hs7 hown
          go_simp
          refine (call_any (putN k x (.slice (some ⟨gS2, 0, none⟩) 1 1)) _ (insAt az k xc) u HNT.out (HSHQ.out _) (HCNQ.out _) HSL.out HIL.out).mono ?_
          rcases HLAW3.out (.slice (some ⟨gS2, 0, none⟩) 1 1) with h | h <;> rw [h]
          · rintro e w9 ⟨rfl, hb9⟩
            exact ⟨_, rfl, ⟨_, _, rfl, .inl ⟨rfl, rfl⟩⟩, Ext.of_below hb9 hu.size⟩
          · rintro e w9 ⟨rfl, hb9⟩
            exact ⟨_, rfl, ⟨_, _, rfl, .inr ⟨rfl, rfl⟩⟩, Ext.of_below hb9 hu.size⟩
        intro vC ⟨uC, _, hrC⟩
        obtain ⟨r9, e9, rfl, hor⟩ := hrC
        have HOR := hid hor
        clear hor
        simp only [Act.put, List.setIfInBounds_toArray, List.set_cons_zero, List.set_cons_succ]
        refine wpG_calc 18 rfl rfl rfl (fun u => by go_simp; rfl) ?_
        simp only [Act.put, List.setIfInBounds_toArray, List.set_cons_zero, List.set_cons_succ]
        refine wpG_calc 19 rfl rfl rfl (fun u => by go_simp; rfl) ?_
        simp only [Act.put, List.setIfInBounds_toArray, List.set_cons_zero, List.set_cons_succ]
        refine wpG_calc 20 rfl rfl rfl (fun u => by go_simp; rfl) ?_
        simp only [Act.put, List.setIfInBounds_toArray, List.set_cons_zero, List.set_cons_succ]
        refine wpG_calc 21 rfl rfl rfl (fun u => by go_simp; rfl) ?_
        simp only [Act.put, List.setIfInBounds_toArray, List.set_cons_zero, List.set_cons_succ]
        refine wpG_calc 22 rfl rfl rfl (fun u => by go_simp; rfl) ?_
        simp only [Act.put, List.setIfInBounds_toArray, List.set_cons_zero, List.set_cons_succ]
        refine wpG_nil fun wc hbwc hF => ?_
        clear hF
        have HBc := hid (HBb.out.trans (hbwc.mono HBb.out.size))
        clear hbwc
        have hnf : ∀ u : World, (binOp .eql 28 .nilIface (.iface 39 (.int .i64 4))).run Tryd.prog u = .ok (.bool false) u := fun u => by
          have h : ∀ d : Nat, (Op.equalIn (d + 1) 28 .nilIface (.iface 39 (.int .i64 4))).run Tryd.prog u = .ok false u := fun d => by simp [Op.equalIn, run_underlying Tryd.underlying28]
          simp only [binOp]
          simp [Op.equal, Op.maxDepth, h, Result.andThen]
        have hef : ∀ u : World, (binOp .eql 28 (.iface 39 (.int .i64 4)) (.iface 39 (.int .i64 4))).run Tryd.prog u = .ok (.bool true) u := fun u => by
          obtain ⟨i, hi, hc⟩ := errno_info
          obtain ⟨ms, hms⟩ := error_iface
          rw [run_eql_iface_int u 4 4 hms Tryd.underlying39 hi hc]; rfl
        rcases HOR.out with ⟨rfl, rfl⟩ | ⟨rfl, rfl⟩
        · go_wp2
          go_ret
          exact ⟨rfl, HBc.out⟩
        · go_wp2
          go_ret
          exact ⟨rfl, HBc.out⟩
      · have f1 : (T0.toList == [73]) = false := by rw [← HT0.out, e, ByteArray.toList_eq]; rfl
        have f2 : (T0.toList == [74]) = true := by rw [← HT0.out, e, ByteArray.toList_eq]; rfl
        have f3 : T0.toList = [74] := by simpa using f2
        clear e
        go_wp2_with fail
        go_region_law (first | refine step_append_src w6 _ rfl _ _ 22 rfl 3 (.int .i64 0) 1 8 k Tryd.underlying22 infoI2 rfl (by decide) _ _ _ HMD.out rfl _ _ HFD.out rfl O1.out (by omega) (by omega) (fun v7 w7 ho7 hg7 => ?_) | refine step_append_src w6 _ rfl _ _ 22 rfl 3 (.int .i64 0) 1 8 (az.length - (k + 1)) Tryd.underlying22 infoI2 rfl (by decide) _ _ _ ho7 rfl _ _ (HBB.out.below ho7.below) rfl O2.out (by omega) (by omega) (fun v8 w8 ho8 hg8 => ?_))
        have HO8 : Hid (Out w6 w8 3 1 v8 (az.eraseIdx k).length ((az.eraseIdx k).map iv)) := hid (by rw [← HEC.out, HLE.out]; simpa using ho8)
        have H18 := hid (H16.out.trans (HO8.out.below.mono H16.out.size))
        have HB8 := hid (HB6.out.trans (HO8.out.below.mono HB6.out.size))
        have HTS8 := hid (HTS.out.below HO8.out.below)
        have HAZ8 := hid (HAZ0.out.below HB8.out)
        have L8 := hid HO8.out.sl
        have hctw : w8.cell? ⟨bt, ot + k, none⟩ = some (.string T0) := (HO8.out.below.cell (World.block_lt_of_cell? _ _ hct)).trans hct
        have hctb : bt < w8.heap.size := World.block_lt_of_cell? _ _ hctw
        have hcyw : w8.cell? ⟨by_, oy + k, none⟩ = some (.int .i64 az[k]) := (HO8.out.below.cell (World.block_lt_of_cell? _ _ hcy)).trans hcy
        have hcyb : by_ < w8.heap.size := World.block_lt_of_cell? _ _ hcyw
        obtain ⟨x0, x1, x2, x3, x4⟩ := HX.out _ H18.out
        clear ho7 hg7 ho8 hg8
        obtain ⟨a8, c8, rfl⟩ := L8.out.val
        obtain ⟨zk, hzk⟩ : ∃ zk, az[k] = zk := ⟨_, rfl⟩
        have HLAW1 : Hid (∀ vs, callW (pairN 5 k x ⟨1, T0, zk, .slice none 0 0, .slice none 0 0, [], .nil⟩ vs) (az.eraseIdx k) = (0, n)) := hid (fun vs => by
          have h := binds_bind HCALL.out HMX.out HC20.out hkt rfl HIJ.out vs
          rw [HT0.out, show az.getD k 0 = zk from by simp [List.getD, List.getElem?_eq_getElem hkn, hzk]] at h
          exact h)
        have HLAW2 : Hid (∀ vs, callW (pairN 7 k x ⟨2, T0, 0, .slice none 0 0, .slice none 0 0, [], .nil⟩ vs) az = (0, n)) := hid (fun vs => by
          have h := binds_filter HCALL.out HMX.out HC20.out hkt rfl HIJ.out vs
          rw [HT0.out] at h
          exact h)
        have HSHP : Hid (∀ (p q m : Int) (v : Value), ShortN (pairN p k x ⟨q, T0, m, .slice none 0 0, .slice none 0 0, [], .nil⟩ v)) := hid (fun p q m v => ⟨by show noT.size ≤ 10000000; decide, HSN.out.1, HSN.out.2, by show T0.size ≤ 10000000; rw [← HT0.out]; rcases HIJ.out with e | e <;> rw [e] <;> decide, trivial, trivial⟩)
        have HCNP : Hid (∀ (p q m : Int) (v : Value), cnt (pairN p k x ⟨q, T0, m, .slice none 0 0, .slice none 0 0, [], .nil⟩ v) ≤ 1000000000000) := hid (fun p q m v => by
          rw [cnt_pair]
          have h1 := HC20.out
          have h2 : cnt ⟨q, T0, m, .slice none 0 0, .slice none 0 0, [], .nil⟩ = 1 := rfl
          omega)
        rw [hzk] at hcyw
        clear hzk
        go_simp
        go_wp2_with fail
        refine wp_region_ext [(11, rows2 x (.slice a1 n1 c1) (.slice a2 n2 c2) 1 T0 zk), (12, pairR 5 k x (.slice a1 n1 c1) (.slice a2 n2 c2) 1 T0 zk), (14, is (.tuple #[.int .i64 n, .nilIface]))] ⟨rows2_stays _ _ _ _ _ _, pairR_stays _ _ _ _ _ _ _ _, is_stays _, trivial⟩ (by kernel_rfl) (by kernel_rfl) ?_
        refine wpG_calc 1 rfl rfl rfl (fun u => by go_simp; rfl) ?_
        simp only [Act.put, List.setIfInBounds_toArray, List.set_cons_zero, List.set_cons_succ]
        refine wpG_read 2 rfl rfl (.agg #[.int .i64 k0, .string t, .int .i64 a, .slice a1 n1 c1, .slice a2 n2 c2]) rfl ?_ ?_
        · intro u hu hh
          obtain ⟨y0, y1, y2, y3, y4⟩ := HX.out u (H18.out.trans (hu.mono H18.out.size))
          go_simp
        simp only [Act.put, List.setIfInBounds_toArray, List.set_cons_zero, List.set_cons_succ]
        refine wpG_calc 3 rfl rfl rfl (fun u => by go_simp; rfl) ?_
        simp only [Act.put, List.setIfInBounds_toArray, List.set_cons_zero, List.set_cons_succ]
        refine wpG_calc 4 rfl rfl rfl (fun u => by go_simp; rfl) ?_
        simp only [Act.put, List.setIfInBounds_toArray, List.set_cons_zero, List.set_cons_succ]
        refine wpG_calc 5 rfl rfl rfl (fun u => by go_simp; rfl) ?_
        simp only [Act.put, List.setIfInBounds_toArray, List.set_cons_zero, List.set_cons_succ]
        refine wpG_read 6 rfl rfl (.string T0) rfl ?_ ?_
        · intro u hu hh
          have hct2 := (hu.cell hctb).trans hctw
          go_simp
        simp only [Act.put, List.setIfInBounds_toArray, List.set_cons_zero, List.set_cons_succ]
        refine wpG_calc 7 rfl rfl rfl (fun u => by go_simp; rfl) ?_
        simp only [Act.put, List.setIfInBounds_toArray, List.set_cons_zero, List.set_cons_succ]
        refine wpG_calc 8 rfl rfl rfl (fun u => by go_simp; rfl) ?_
        simp only [Act.put, List.setIfInBounds_toArray, List.set_cons_zero, List.set_cons_succ]
        refine wpG_calc 9 rfl rfl rfl (fun u => by go_simp; rfl) ?_
        simp only [Act.put, List.setIfInBounds_toArray, List.set_cons_zero, List.set_cons_succ]
        refine wpG_read 10 rfl rfl (.int .i64 (zk)) rfl ?_ ?_
        · intro u hu hh
          have hcy2 := (hu.cell hcyb).trans hcyw
          go_simp
        simp only [Act.put, List.setIfInBounds_toArray, List.set_cons_zero, List.set_cons_succ]
        refine wpG_calc 11 rfl rfl rfl (fun u => by go_simp; rfl) ?_
        simp only [Act.put, List.setIfInBounds_toArray, List.set_cons_zero, List.set_cons_succ]
        refine wpG_rel 12 rfl rfl rfl ?_ ?_
        · intro u hu hh
          go_simp
          exact ⟨⟨_, rfl, by rw [HNX.out.1, HNX.out.2.1, HNX.out.2.2.1]; exact heap_alloc_new _ _⟩, ext_alloc _ _⟩
        intro vS ⟨uS, _, hrS⟩
        obtain ⟨gS, rfl, -⟩ := hrS
        simp only [Act.put, List.setIfInBounds_toArray, List.set_cons_zero, List.set_cons_succ]
        refine wpG_rel 13 rfl rfl rfl ?_ ?_
        · intro u hu hh
          have hs5 : rows2 x (.slice a1 n1 c1) (.slice a2 n2 c2) 1 T0 zk (.slice (some ⟨gS, 0, none⟩) 2 2) u := hh 11 rfl
          go_simp
          exact ⟨⟨gS, rfl, hs5⟩, Below.refl _ _⟩
        intro vG ⟨uG, _, hrG⟩
        obtain ⟨gS2, rfl, -⟩ := hrG
        simp only [Act.put, List.setIfInBounds_toArray, List.set_cons_zero, List.set_cons_succ]
        refine wpG_calc 14 rfl rfl rfl (fun u => by go_simp; rfl) ?_
        simp only [Act.put, List.setIfInBounds_toArray, List.set_cons_zero, List.set_cons_succ]
        refine wpG_rel 15 rfl rfl rfl ?_ ?_
        · intro u hu hh
          obtain ⟨gS3, hs6, hs7⟩ : pairR 5 k x (.slice a1 n1 c1) (.slice a2 n2 c2) 1 T0 zk _ u := hh 12 rfl
          cases hs6
          have HBu := hid (HB8.out.trans (hu.mono HB8.out.size))
          have HNT : Hid (NAt u (pairN 5 k x ⟨1, T0, zk, .slice none 0 0, .slice none 0 0, [], .nil⟩ (.slice (some ⟨gS2, 0, none⟩) 2 2))) := hid (pair_at (HXN.out.below HBu.out) (by rw [HNX.out.2.2.2.1, HNX.out.2.2.2.2]; exact hs7))
          clear hs7
          go_simp
          refine (call_any (pairN 5 k x ⟨1, T0, zk, .slice none 0 0, .slice none 0 0, [], .nil⟩ (.slice (some ⟨gS2, 0, none⟩) 2 2)) _ (az.eraseIdx k) u HNT.out (HSHP.out 5 1 zk _) (HCNP.out 5 1 zk _) (L8.out.below hu) (by have := HLE.out; omega)).mono ?_
          rw [HLAW1.out]
          rintro e w9 ⟨rfl, hb9⟩
          exact ⟨_, rfl, rfl, hb9⟩
        intro vC ⟨uC, _, hrC⟩
        obtain rfl : vC = .tuple #[.int .i64 n, .nilIface] := hrC
        simp only [Act.put, List.setIfInBounds_toArray, List.set_cons_zero, List.set_cons_succ]
        refine wpG_calc 16 rfl rfl rfl (fun u => by go_simp; rfl) ?_
        simp only [Act.put, List.setIfInBounds_toArray, List.set_cons_zero, List.set_cons_succ]
        refine wpG_calc 17 rfl rfl rfl (fun u => by go_simp; rfl) ?_
        simp only [Act.put, List.setIfInBounds_toArray, List.set_cons_zero, List.set_cons_succ]
        refine wpG_calc 18 rfl rfl rfl (fun u => by go_simp; rfl) ?_
        simp only [Act.put, List.setIfInBounds_toArray, List.set_cons_zero, List.set_cons_succ]
        refine wpG_calc 19 rfl rfl rfl (fun u => by go_simp; rfl) ?_
        simp only [Act.put, List.setIfInBounds_toArray, List.set_cons_zero, List.set_cons_succ]
        refine wpG_calc 20 rfl rfl rfl (fun u => by go_simp; rfl) ?_
        simp only [Act.put, List.setIfInBounds_toArray, List.set_cons_zero, List.set_cons_succ]
        refine wpG_nil fun wa hbwa hF => ?_
        clear hF
        have H1a := hid (H18.out.trans (hbwa.mono H18.out.size))
        have HBa := hid (HB8.out.trans (hbwa.mono HB8.out.size))
        have HAZa := hid (HAZ0.out.below HBa.out)
        have hctw : wa.cell? ⟨bt, ot + k, none⟩ = some (.string T0) := (hbwa.cell hctb).trans hctw
        have hctb : bt < wa.heap.size := World.block_lt_of_cell? _ _ hctw
        obtain ⟨x0, x1, x2, x3, x4⟩ := HX.out _ H1a.out
        clear hbwa
        go_wp2_with fail
        refine wp_region_ext [(7, rows2 x (.slice a1 n1 c1) (.slice a2 n2 c2) 2 T0 0), (8, pairR 7 k x (.slice a1 n1 c1) (.slice a2 n2 c2) 2 T0 0), (10, is (.tuple #[.int .i64 n, .nilIface]))] ⟨rows2_stays _ _ _ _ _ _, pairR_stays _ _ _ _ _ _ _ _, is_stays _, trivial⟩ (by kernel_rfl) (by kernel_rfl) ?_
        refine wpG_calc 1 rfl rfl rfl (fun u => by go_simp; rfl) ?_
        simp only [Act.put, List.setIfInBounds_toArray, List.set_cons_zero, List.set_cons_succ]
        refine wpG_read 2 rfl rfl (.agg #[.int .i64 k0, .string t, .int .i64 a, .slice a1 n1 c1, .slice a2 n2 c2]) rfl ?_ ?_
        · intro u hu hh
          obtain ⟨y0, y1, y2, y3, y4⟩ := HX.out u (H1a.out.trans (hu.mono H1a.out.size))
          go_simp
        simp only [Act.put, List.setIfInBounds_toArray, List.set_cons_zero, List.set_cons_succ]
        refine wpG_calc 3 rfl rfl rfl (fun u => by go_simp; rfl) ?_
        simp only [Act.put, List.setIfInBounds_toArray, List.set_cons_zero, List.set_cons_succ]
        refine wpG_calc 4 rfl rfl rfl (fun u => by go_simp; rfl) ?_
        simp only [Act.put, List.setIfInBounds_toArray, List.set_cons_zero, List.set_cons_succ]
        refine wpG_calc 5 rfl rfl rfl (fun u => by go_simp; rfl) ?_
        simp only [Act.put, List.setIfInBounds_toArray, List.set_cons_zero, List.set_cons_succ]
        refine wpG_read 6 rfl rfl (.string T0) rfl ?_ ?_
        · intro u hu hh
          have hct2 := (hu.cell hctb).trans hctw
          go_simp
        simp only [Act.put, List.setIfInBounds_toArray, List.set_cons_zero, List.set_cons_succ]
        refine wpG_calc 7 rfl rfl rfl (fun u => by go_simp; rfl) ?_
        simp only [Act.put, List.setIfInBounds_toArray, List.set_cons_zero, List.set_cons_succ]
        refine wpG_rel 8 rfl rfl rfl ?_ ?_
        · intro u hu hh
          go_simp
          exact ⟨⟨_, rfl, by rw [HNX.out.1, HNX.out.2.1, HNX.out.2.2.1]; exact heap_alloc_new _ _⟩, ext_alloc _ _⟩
        intro vS ⟨uS, _, hrS⟩
        obtain ⟨gS, rfl, -⟩ := hrS
        simp only [Act.put, List.setIfInBounds_toArray, List.set_cons_zero, List.set_cons_succ]
        refine wpG_rel 9 rfl rfl rfl ?_ ?_
        · intro u hu hh
          have hs5 : rows2 x (.slice a1 n1 c1) (.slice a2 n2 c2) 2 T0 0 (.slice (some ⟨gS, 0, none⟩) 2 2) u := hh 7 rfl
          go_simp
          exact ⟨⟨gS, rfl, hs5⟩, Below.refl _ _⟩
        intro vG ⟨uG, _, hrG⟩
        obtain ⟨gS2, rfl, -⟩ := hrG
        simp only [Act.put, List.setIfInBounds_toArray, List.set_cons_zero, List.set_cons_succ]
        refine wpG_calc 10 rfl rfl rfl (fun u => by go_simp; rfl) ?_
        simp only [Act.put, List.setIfInBounds_toArray, List.set_cons_zero, List.set_cons_succ]
        refine wpG_rel 11 rfl rfl rfl ?_ ?_
        · intro u hu hh
          obtain ⟨gS3, hs6, hs7⟩ : pairR 7 k x (.slice a1 n1 c1) (.slice a2 n2 c2) 2 T0 0 _ u := hh 8 rfl
          cases hs6
          have HBu := hid (HBa.out.trans (hu.mono HBa.out.size))
          have HNT : Hid (NAt u (pairN 7 k x ⟨2, T0, 0, .slice none 0 0, .slice none 0 0, [], .nil⟩ (.slice (some ⟨gS2, 0, none⟩) 2 2))) := hid (pair_at (HXN.out.below HBu.out) (by rw [HNX.out.2.2.2.1, HNX.out.2.2.2.2]; exact hs7))
          clear hs7
          go_simp
          refine (call_any (pairN 7 k x ⟨2, T0, 0, .slice none 0 0, .slice none 0 0, [], .nil⟩ (.slice (some ⟨gS2, 0, none⟩) 2 2)) _ az u HNT.out (HSHP.out 7 2 0 _) (HCNP.out 7 2 0 _) (HAZa.out.below hu) (by have := HLE.out; omega)).mono ?_
          rw [HLAW2.out]
          rintro e w9 ⟨rfl, hb9⟩
          exact ⟨_, rfl, rfl, hb9⟩
        intro vC ⟨uC, _, hrC⟩
        obtain rfl : vC = .tuple #[.int .i64 n, .nilIface] := hrC
        simp only [Act.put, List.setIfInBounds_toArray, List.set_cons_zero, List.set_cons_succ]
        refine wpG_calc 12 rfl rfl rfl (fun u => by go_simp; rfl) ?_
        simp only [Act.put, List.setIfInBounds_toArray, List.set_cons_zero, List.set_cons_succ]
        refine wpG_calc 13 rfl rfl rfl (fun u => by go_simp; rfl) ?_
        simp only [Act.put, List.setIfInBounds_toArray, List.set_cons_zero, List.set_cons_succ]
        refine wpG_calc 14 rfl rfl rfl (fun u => by go_simp; rfl) ?_
        simp only [Act.put, List.setIfInBounds_toArray, List.set_cons_zero, List.set_cons_succ]
        refine wpG_calc 15 rfl rfl rfl (fun u => by go_simp; rfl) ?_
        simp only [Act.put, List.setIfInBounds_toArray, List.set_cons_zero, List.set_cons_succ]
        refine wpG_calc 16 rfl rfl rfl (fun u => by go_simp; rfl) ?_
        simp only [Act.put, List.setIfInBounds_toArray, List.set_cons_zero, List.set_cons_succ]
        refine wpG_nil fun wb hbwb hF => ?_
        clear hF
        have H1b := hid (H1a.out.trans (hbwb.mono H1a.out.size))
        have HBb := hid (HBa.out.trans (hbwb.mono HBa.out.size))
        have HAZb := hid (HAZ0.out.below HBb.out)
        obtain ⟨x0, x1, x2, x3, x4⟩ := HX.out _ H1b.out
        clear hbwb
        go_wp2_with fail
        refine (wrap_any _ _ HIN.out).mono ?_
        rintro e wd ⟨rfl, rfl⟩
        go_wp2_with fail
        obtain ⟨xc, hxc⟩ : ∃ xc, wrap32 cc = xc := ⟨_, rfl⟩
        simp only [hxc]
        have HLAW3 : Hid (∀ vs, callW (putN k x vs) (insAt az k xc) = (0, n) ∨ callW (putN k x vs) (insAt az k xc) = (4, 0)) := hid (fun vs => by
          have h := binds_put HCALL.out HMX.out HC20.out hkt cc vs
          rw [hxc] at h
          exact h)
        clear hxc
        obtain ⟨TG, hTG⟩ : ∃ TG, (insAt az k xc).map iv = TG := ⟨_, rfl⟩
        have hil : (insAt az k xc).length = az.length + 1 := insAt_len xc (by omega)
        have hget : ∀ j, TG[j]? = if j < k then (az.map iv)[j]? else if j = k then some (iv xc) else (az.map iv)[j - 1]? := fun j => by
          rw [← hTG, List.getElem?_map, insAt_get az k xc (by omega)]
          by_cases h1 : j < k
          · rw [if_pos h1, if_pos h1, List.getElem?_map]
          · rw [if_neg h1, if_neg h1]
            by_cases h2 : j = k
            · rw [if_pos h2, if_pos h2]; rfl
            · rw [if_neg h2, if_neg h2, List.getElem?_map]
        have HTL : Hid (k + 1 + (az.length - k) ≤ TG.length) := hid (by rw [← hTG, List.length_map, hil]; omega)
        have HSLF : Hid (∀ (v : Value) (u : World), Sl u v (k + 1 + (az.length - k)) 1 (TG.take (k + 1 + (az.length - k))) → Sl u v (insAt az k xc).length 1 ((insAt az k xc).map iv)) := hid (fun v u h => by
          have e1 : k + 1 + (az.length - k) = (insAt az k xc).length := by rw [hil]; omega
          rw [e1] at h
          have e2 : TG.length = (insAt az k xc).length := by rw [← hTG, List.length_map]
          rw [← e2, List.take_length, e2] at h
          rw [hTG]; exact h)
        have HIL : Hid ((insAt az k xc).length ≤ 1000000000000) := hid (by rw [hil]; omega)
        have HCELL : Hid (∀ u, Below wb.heap.size wb u → ∀ j (hj : j < az.length), u.cell? ⟨by_, oy + j, none⟩ = some (.int .i64 az[j])) := hid (fun u hu j hj => by
          obtain ⟨b', o', he, hc⟩ := Sl.ints (K := .i64) (HAZb.out.below hu) hj
          cases he; exact hc)
        have HL8 : Hid (((az.take k).map iv).length = k) := hid (by rw [List.length_map, List.length_take]; omega)
        have HL15 : Hid (((az.drop k).map iv).length = az.length - k) := hid (by rw [List.length_map, List.length_drop])
        have HO8a : Hid (∀ q ∈ (az.take k).map iv, q.oneCell' = true) := hid (fun q hq => by obtain ⟨y, _, rfl⟩ := List.mem_map.1 hq; rfl)
        have HO15 : Hid (∀ q ∈ (az.drop k).map iv, q.oneCell' = true) := hid (fun q hq => by obtain ⟨y, _, rfl⟩ := List.mem_map.1 hq; rfl)
        have HN8 : Hid (∀ u, Below wb.heap.size wb u → ∀ j q, ((az.take k).map iv)[j]? = some q → u.cell? ((⟨by_, oy, none⟩ : Addr).add j) = some q) := hid (fun u hu j q hj => by
          rw [List.getElem?_map, List.getElem?_take] at hj
          by_cases hjk : j < k
          · rw [if_pos hjk, List.getElem?_eq_getElem (by omega)] at hj
            rw [Addr.add_lit, HCELL.out u hu j (by omega)]
            exact hj
          · rw [if_neg hjk] at hj; cases hj)
        have HN15 : Hid (∀ u, Below wb.heap.size wb u → ∀ j q, ((az.drop k).map iv)[j]? = some q → u.cell? ((⟨by_, oy + k, none⟩ : Addr).add j) = some q) := hid (fun u hu j q hj => by
          rw [List.getElem?_map, List.getElem?_drop] at hj
          by_cases hjk : k + j < az.length
          · rw [List.getElem?_eq_getElem hjk] at hj
            rw [Addr.add_lit, Nat.add_assoc, HCELL.out u hu (k + j) hjk]
            exact hj
          · rw [List.getElem?_eq_none (by omega)] at hj; cases hj)
        have HT8 : Hid (∀ j, j < k → ((az.take k).map iv)[j]? = TG[0 + j]?) := hid (fun j hj => by
          rw [Nat.zero_add, hget, if_pos hj, List.getElem?_map, List.getElem?_take, if_pos hj, List.getElem?_map])
        have HT11 : Hid (∀ j, j < 1 → [Value.int .i64 xc][j]? = TG[k + j]?) := hid (fun j hj => by
          obtain rfl : j = 0 := by omega
          rw [hget, if_neg (by omega), if_pos (by omega)]; rfl)
        have HT15 : Hid (∀ j, j < az.length - k → ((az.drop k).map iv)[j]? = TG[k + 1 + j]?) := hid (fun j hj => by
          rw [hget, if_neg (by omega), if_neg (by omega), List.getElem?_map, List.getElem?_map, List.getElem?_drop]
          congr 2; omega)
        have HQK : Hid (TG[k]? = some (.int .i64 xc)) := hid (by rw [hget, if_neg (by omega), if_pos rfl]; rfl)
        have HSHQ : Hid (∀ v, ShortN (putN k x v)) := hid (fun v => ⟨by show (⟨#[73]⟩ : ByteArray).size ≤ 10000000; decide, HSN.out.1, HSN.out.2, trivial⟩)
        have HCNQ : Hid (∀ v, cnt (putN k x v) ≤ 1000000000000) := hid (fun v => by rw [cnt_put]; have := HC20.out; omega)
        have hcak : ¬ ca = k := by omega
        clear hget hTG hil
        refine wp_region_tgt 3 k TG [(2, row1 x (.slice a1 n1 c1) (.slice a2 n2 c2)), (3, putR k x (.slice a1 n1 c1) (.slice a2 n2 c2)), (4, OwnP wb.heap.size 3 TG 0 true), (8, OwnP wb.heap.size 3 TG k false), (10, OneP wb.heap.size 3 (.int .i64 xc)), (11, OwnP wb.heap.size 3 TG (k + 1) false), (15, OwnP wb.heap.size 3 TG (k + 1 + (az.length - k)) false), (16, orFull n)] ⟨row1_stE _ _ _, putR_stE _ _ _ _, ownP_stays, ownP_stays, oneP_stays HQK.out, ownP_stays, ownP_stays, fun _ _ _ _ h => h, trivial⟩ (by kernel_rfl) (by kernel_rfl) ?_
        refine wpG_calc 1 rfl rfl rfl (fun u => by go_simp; rfl) ?_
        simp only [Act.put, List.setIfInBounds_toArray, List.set_cons_zero, List.set_cons_succ]
        refine wpG_read 2 rfl rfl (.agg #[.int .i64 k0, .string t, .int .i64 a, .slice a1 n1 c1, .slice a2 n2 c2]) rfl ?_ ?_
        · intro u hu hh
          obtain ⟨y0, y1, y2, y3, y4⟩ := HX.out u (H1b.out.trans (hu.mono H1b.out.size))
          go_simp
        simp only [Act.put, List.setIfInBounds_toArray, List.set_cons_zero, List.set_cons_succ]
        refine wpG_rel 3 rfl rfl rfl ?_ ?_
        · intro u hu hh
          go_simp
          exact ⟨⟨_, rfl, by rw [HNX.out.1, HNX.out.2.1, HNX.out.2.2.1]; exact heap_alloc_new _ _⟩, Ext.of_below (ext_alloc _ _) hu.size⟩
        intro vS ⟨uS, _, hrS⟩
        obtain ⟨gS, rfl, -⟩ := hrS
        simp only [Act.put, List.setIfInBounds_toArray, List.set_cons_zero, List.set_cons_succ]
        refine wpG_rel 4 rfl rfl rfl ?_ ?_
        · intro u hu hh
          have hs5 : row1 x (.slice a1 n1 c1) (.slice a2 n2 c2) (.slice (some ⟨gS, 0, none⟩) 1 1) u := hh 2 rfl
          go_simp
          exact ⟨⟨gS, rfl, hs5⟩, Ext.refl _⟩
        intro vG ⟨uG, _, hrG⟩
        obtain ⟨gS2, rfl, -⟩ := hrG
        simp only [Act.put, List.setIfInBounds_toArray, List.set_cons_zero, List.set_cons_succ]
        refine wpG_rel 5 rfl rfl rfl ?_ ?_
        · intro u hu hh
          go_simp
          exact ⟨ownP_made _ hu.size, Ext.of_below (ext_alloc _ _) hu.size⟩
        intro vM ⟨uM, _, hrM⟩
        obtain ⟨gM, curM, rfl, -⟩ := hrM
        obtain ⟨cM, hcM⟩ : ∃ cM, curM.size = cM := ⟨_, rfl⟩
        rw [hcM]
        clear hcM
        simp only [Act.put, List.setIfInBounds_toArray, List.set_cons_zero, List.set_cons_succ]
        refine wpG_calc 6 rfl rfl rfl (fun u => by go_simp; rfl) ?_
        simp only [Act.put, List.setIfInBounds_toArray, List.set_cons_zero, List.set_cons_succ]
        refine wpG_calc 7 rfl rfl rfl (fun u => by go_simp; rfl) ?_
        simp only [Act.put, List.setIfInBounds_toArray, List.set_cons_zero, List.set_cons_succ]
        refine wpG_calc 8 rfl rfl rfl (fun u => by go_simp; rfl) ?_
        simp only [Act.put, List.setIfInBounds_toArray, List.set_cons_zero, List.set_cons_succ]
        refine wpG_rel 9 rfl rfl rfl ?_ ?_
        · intro u hu hh
          obtain ⟨v', u', hr, h5, h6⟩ := append_tgt (k := k) (tg := TG) (m := 0) (l := k) (z := .int .i64 0) (bytes := 8) (P := Tryd.prog) (t := 22) Tryd.underlying22 infoI2 rfl 22 (hh 4 rfl) hu.size ⟨by_, oy, none⟩ ca _ HL8.out (HN8.out u hu) HO8a.out HT8.out (.inr rfl) (by omega) (by decide)
          rw [Nat.zero_add] at h5
          exact grow_append rfl rfl rfl hr ⟨h5, h6⟩
        intro vA ⟨uA, _, hrA⟩
        obtain ⟨gA, curA, rfl, -⟩ := hrA
        obtain ⟨cA, hcA⟩ : ∃ cA, curA.size = cA := ⟨_, rfl⟩
        rw [hcA]
        clear hcA
        simp only [Act.put, List.setIfInBounds_toArray, List.set_cons_zero, List.set_cons_succ]
        refine wpG_calc 10 rfl rfl rfl (fun u => by go_simp; rfl) ?_
        simp only [Act.put, List.setIfInBounds_toArray, List.set_cons_zero, List.set_cons_succ]
        refine wpG_rel 11 rfl rfl rfl ?_ ?_
        · intro u hu hh
          go_simp
          exact ⟨⟨_, rfl, hu.size, heap_alloc_new _ _⟩, Ext.of_below (ext_alloc _ _) hu.size⟩
        intro vO ⟨uO, _, hrO⟩
        obtain ⟨gO, rfl, -⟩ := hrO
        simp only [Act.put, List.setIfInBounds_toArray, List.set_cons_zero, List.set_cons_succ]
        refine wpG_rel 12 rfl rfl rfl ?_ ?_
        · intro u hu hh
          obtain ⟨gO2, heO, -, hrow⟩ : OneP wb.heap.size 3 (.int .i64 xc) (.slice (some ⟨gO, 0, none⟩) 1 1) u := hh 10 rfl
          cases heO
          obtain ⟨v', u', hr, h5, h6⟩ := append_tgt (k := k) (tg := TG) (m := k) (l := 1) (z := .int .i64 0) (bytes := 8) (P := Tryd.prog) (t := 22) Tryd.underlying22 infoI2 rfl 22 (hh 8 rfl) hu.size ⟨gO, 0, none⟩ 1 [.int .i64 xc] rfl (fun j q hj => by rw [Addr.add_lit, Nat.zero_add, cell_of_row _ _ _ _ _ _ hrow]; simpa using hj) (fun q hq => by obtain rfl := List.mem_singleton.1 hq; rfl) HT11.out (.inl (by omega)) (by omega) (by decide)
          exact grow_append rfl rfl rfl hr ⟨h5, h6⟩
        intro vB ⟨uB, _, hrB⟩
        obtain ⟨gB, curB, rfl, -⟩ := hrB
        obtain ⟨cB, hcB⟩ : ∃ cB, curB.size = cB := ⟨_, rfl⟩
        rw [hcB]
        clear hcB
        simp only [Act.put, List.setIfInBounds_toArray, List.set_cons_zero, List.set_cons_succ]
        refine wpG_calc 13 rfl rfl rfl (fun u => by go_simp; rfl) ?_
        simp only [Act.put, List.setIfInBounds_toArray, List.set_cons_zero, List.set_cons_succ]
        refine wpG_calc 14 rfl rfl rfl (fun u => by go_simp; rfl) ?_
        simp only [Act.put, List.setIfInBounds_toArray, List.set_cons_zero, List.set_cons_succ]
        refine wpG_calc (v := .slice (some ⟨by_, oy + k, none⟩) (az.length - k) (ca - k)) 15 rfl rfl rfl (fun u => by go_simp; intro hbad; omega) ?_
        simp only [Act.put, List.setIfInBounds_toArray, List.set_cons_zero, List.set_cons_succ]
        refine wpG_rel 16 rfl rfl rfl ?_ ?_
        · intro u hu hh
          obtain ⟨v', u', hr, h5, h6⟩ := append_tgt (k := k) (tg := TG) (m := k + 1) (l := az.length - k) (z := .int .i64 0) (bytes := 8) (P := Tryd.prog) (t := 22) Tryd.underlying22 infoI2 rfl 22 (hh 11 rfl) hu.size ⟨by_, oy + k, none⟩ (ca - k) _ HL15.out (HN15.out u hu) HO15.out HT15.out (.inl (by omega)) (by omega) (by decide)
          exact grow_append rfl rfl rfl hr ⟨h5, h6⟩
        intro vD ⟨uD, _, hrD⟩
        obtain ⟨gD, curD, rfl, -⟩ := hrD
        obtain ⟨cD, hcD⟩ : ∃ cD, curD.size = cD := ⟨_, rfl⟩
        rw [hcD]
        clear hcD
        simp only [Act.put, List.setIfInBounds_toArray, List.set_cons_zero, List.set_cons_succ]
        refine wpG_rel 17 rfl rfl rfl ?_ ?_
        · intro u hu hh
          obtain ⟨gS3, hs6, hs7⟩ : putR k x (.slice a1 n1 c1) (.slice a2 n2 c2) _ u := hh 3 rfl
          cases hs6
          have hown : OwnP wb.heap.size 3 TG (k + 1 + (az.length - k)) false _ u := hh 15 rfl
          have HBu := hid (HBb.out.trans (hu.mono HBb.out.size))
          have HNT : Hid (NAt u (putN k x (.slice (some ⟨gS2, 0, none⟩) 1 1))) := hid (put_at (HXN.out.below HBu.out) (by
            have h := row1_sl (x := x) (u := u) (v := .slice (some ⟨gS2, 0, none⟩) 1 1) (by rw [HNX.out.2.2.2.1, HNX.out.2.2.2.2]; exact hs7)
            exact h))
          have HSL : Hid (Sl u (.slice (some ⟨gD, 0, none⟩) (k + 1 + (az.length - k)) cD) (insAt az k xc).length 1 ((insAt az k xc).map iv)) := hid (HSLF.out _ _ (hown.sl HTL.out))
          clear hs7 hown
          go_simp
          refine (call_any (putN k x (.slice (some ⟨gS2, 0, none⟩) 1 1)) _ (insAt az k xc) u HNT.out (HSHQ.out _) (HCNQ.out _) HSL.out HIL.out).mono ?_
          rcases HLAW3.out (.slice (some ⟨gS2, 0, none⟩) 1 1) with h | h <;> rw [h]
          · rintro e w9 ⟨rfl, hb9⟩
            exact ⟨_, rfl, ⟨_, _, rfl, .inl ⟨rfl, rfl⟩⟩, Ext.of_below hb9 hu.size⟩
          · rintro e w9 ⟨rfl, hb9⟩
            exact ⟨_, rfl, ⟨_, _, rfl, .inr ⟨rfl, rfl⟩⟩, Ext.of_below hb9 hu.size⟩
        intro vC ⟨uC, _, hrC⟩
        obtain ⟨r9, e9, rfl, hor⟩ := hrC
        have HOR := hid hor
        clear hor
        simp only [Act.put, List.setIfInBounds_toArray, List.set_cons_zero, List.set_cons_succ]
        refine wpG_calc 18 rfl rfl rfl (fun u => by go_simp; rfl) ?_
        simp only [Act.put, List.setIfInBounds_toArray, List.set_cons_zero, List.set_cons_succ]
        refine wpG_calc 19 rfl rfl rfl (fun u => by go_simp; rfl) ?_
        simp only [Act.put, List.setIfInBounds_toArray, List.set_cons_zero, List.set_cons_succ]
        refine wpG_calc 20 rfl rfl rfl (fun u => by go_simp; rfl) ?_
        simp only [Act.put, List.setIfInBounds_toArray, List.set_cons_zero, List.set_cons_succ]
        refine wpG_calc 21 rfl rfl rfl (fun u => by go_simp; rfl) ?_
        simp only [Act.put, List.setIfInBounds_toArray, List.set_cons_zero, List.set_cons_succ]
        refine wpG_calc 22 rfl rfl rfl (fun u => by go_simp; rfl) ?_
        simp only [Act.put, List.setIfInBounds_toArray, List.set_cons_zero, List.set_cons_succ]
        refine wpG_nil fun wc hbwc hF => ?_
        clear hF
        have HBc := hid (HBb.out.trans (hbwc.mono HBb.out.size))
        clear hbwc
        have hnf : ∀ u : World, (binOp .eql 28 .nilIface (.iface 39 (.int .i64 4))).run Tryd.prog u = .ok (.bool false) u := fun u => by
          have h : ∀ d : Nat, (Op.equalIn (d + 1) 28 .nilIface (.iface 39 (.int .i64 4))).run Tryd.prog u = .ok false u := fun d => by simp [Op.equalIn, run_underlying Tryd.underlying28]
          simp only [binOp]
          simp [Op.equal, Op.maxDepth, h, Result.andThen]
        have hef : ∀ u : World, (binOp .eql 28 (.iface 39 (.int .i64 4)) (.iface 39 (.int .i64 4))).run Tryd.prog u = .ok (.bool true) u := fun u => by
          obtain ⟨i, hi, hc⟩ := errno_info
          obtain ⟨ms, hms⟩ := error_iface
          rw [run_eql_iface_int u 4 4 hms Tryd.underlying39 hi hc]; rfl
        rcases HOR.out with ⟨rfl, rfl⟩ | ⟨rfl, rfl⟩
        · go_wp2
          go_ret
          exact ⟨rfl, HBc.out⟩
        · go_wp2
          go_ret
          exact ⟨rfl, HBc.out⟩
    · have f1 : (T0.toList == [73]) = false := beq_eq_false_iff_ne.2 fun e => hij (.inl (by have := congrArg ByteArray.toList HT0.out; rw [e, ByteArray.toList_eq] at this; exact this))
      have f2 : (T0.toList == [74]) = false := beq_eq_false_iff_ne.2 fun e => hij (.inr (by have := congrArg ByteArray.toList HT0.out; rw [e, ByteArray.toList_eq] at this; exact this))
      clear hij
      go_wp2
      go_ret
      exact ⟨rfl, HB6.out⟩
  · rw [show errVal (z, n).1 = .iface 39 (.int .i64 z) from by unfold errVal; rw [if_neg hz]]
    clear HOK hz
    go_wp2
    go_ret
    exact ⟨rfl, HB4.out⟩
end Go.Proofs.YtikkhjcocmihlaaDoor.hands
