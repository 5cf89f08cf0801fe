/- slices.Repeat of one text. Condition: at most ten times. -/
import Derived.Test.YtloeaihbnnnncaaGreatDoorWldH
import Derived.Laws.CopyOwn
import Derived.Laws.CopyRow
import Derived.Test.YtloeaihbnnnncaaGreatDoorDskA
import Derived.Test.YtloeaihbnnnncaaGreatDoorStrs
import Derived.Test.YtloeaihbnnnncaaGreatDoorRows
import Derived.BigQuiet
import Derived.Lib.ItoaLen
import Derived.Test.YtloeaihbnnnncaaGreatDoorTxt5
set_option linter.unusedSimpArgs false
set_option linter.unusedVariables false
namespace Go.Proofs.YtloeaihbnnnncaaGreatDoor.worlds
open Go.RowKit Go.Proofs.YtloeaihbnnnncaaGreatDoor.lib Go.Proofs.YtloeaihbnnnncaaGreatDoor.maps Go.Proofs.YtloeaihbnnnncaaGreatDoor.classes Go.Proofs.YtloeaihbnnnncaaGreatDoor.errs

/-- 'copy' into a row of the walk's own, as one step of a region that draws its order -/
theorem step_copy {P : Program} {w : World} {ops : Array Oper} {o : Oper} {a : Act} {K : Act → World → Prop} {Q : Exit → Act → World → Prop} {E : Prop} (hgd : o.guard = none) (d s : Operand) (dT sT : TypeId)
    (ho : o.op = .call { callee := .builtin .copy, args := #[d, s], argTypes := #[dT, sT] }) (elem : TypeId) (hu : P.underlying dT = some (.slice elem)) (hsz : (P.info? elem).map (·.size) = some 1)
    (g off dLen dCap : Nat) (ad : Addr) (sLen sCap : Nat) (hd : a.eval d = .slice (some ⟨g, off, none⟩) dLen dCap) (hs : a.eval s = .slice (some ad) sLen sCap)
    (cur : Array Value) (t : TypeId) (hg : w.heap[g]? = some (.cells cur t (0, 0))) (cs : List Value) (hn : cs.length = Nat.min sLen dLen)
    (hsrc : ∀ j v, cs[j]? = some v → w.cell? (ad.add j) = some v) (hfit : off + cs.length ≤ cur.size) (h1 : ∀ v ∈ cs, v.oneCell' = true)
    (h : K (a.put o.dst (goInt cs.length)) (w.setRow g (cur.toList.take off ++ (cs ++ cur.toList.drop (off + cs.length))).toArray)) :
    if Region.wanted o (yielded ops a.tmps) = true then Oper.wp P o a w K Q else E := by
  have hw : Region.wanted o (yielded ops a.tmps) = true := by simp [Region.wanted, hgd]
  rw [if_pos hw]
  have hrun := run_copy_row (P := P) w dT sT o.type elem g off dLen dCap ad sLen sCap cur t cs hu hsz hg hn hsrc hfit h1
  unfold Oper.wp
  simp [execOp, ho, resolve, invoke, builtin, hd, hs, hrun, Result.andThen]
  simpa [Oper.upon] using h

/-- the row's first k cells hold the text -/
structure RRow (w wr : World) (c : Nat) (x : ByteArray) (k : Nat) : Prop where
  below : Below w.heap.size w wr
  row : ∃ cur, wr.heap[w.heap.size]? = some (.cells cur 9 (0, 0)) ∧ cur.size = c ∧ ∀ j, j < k → cur[j]? = some (.string x)
theorem rrow_step {w wr : World} {c k m : Nat} {x : ByteArray} {cur : Array Value} (hb : Below w.heap.size w wr) (h : wr.heap[w.heap.size]? = some (.cells cur 9 (0, 0))) (hs : cur.size = c) (hc : ∀ j, j < k → cur[j]? = some (.string x)) (hm : k + m ≤ c) :
    RRow w (wr.setRow w.heap.size (cur.toList.take k ++ (List.replicate m (Value.string x) ++ cur.toList.drop (k + (List.replicate m (Value.string x)).length))).toArray) c x (k + m) := by
  refine ⟨Go.Proofs.YtloeaihbnnnncaaGreatDoor.lib.below_setRow hb (Nat.le_refl _) _, _, setRow_heap _ _ _ _ _ _ h, ?_, fun j hj => ?_⟩
  · simp only [List.size_toArray, List.length_append, List.length_take, List.length_drop, List.length_replicate, Array.length_toList]
    omega
  · simp only [List.getElem?_toArray]
    have hl : (cur.toList.take k).length = k := by rw [List.length_take, Array.length_toList]; omega
    by_cases h1 : j < k
    · rw [List.getElem?_append_left (by omega), List.getElem?_take, if_pos h1, Array.getElem?_toList]; exact hc j h1
    · rw [List.getElem?_append_right (by omega), hl, List.getElem?_append_left (by rw [List.length_replicate]; omega), List.getElem?_replicate, if_pos (by omega)]

set_option maxRecDepth 100000 in
set_option maxHeartbeats 8000000 in
theorem repeat_any (b c1 c : Nat) (x : ByteArray) (w : World) (hx : w.cell? ⟨b, 0, none⟩ = some (.string x)) (hc : c ≤ 2000000) :
    Calls Tryz.prog 248 #[.slice (some ⟨b, 0, none⟩) 1 c1, .int .i64 (c : Int)] w fun e w' => ∃ v, e = .returned v ∧ Sl w' v c 1 (List.replicate c (.string x)) ∧ Below w.heap.size w w' := by
  have HM := hid (Tryz.bits_Mul 1 c (by decide) (by omega) w)
  have e1 : 1 * c / 18446744073709551616 = 0 := Nat.div_eq_of_lt (by omega)
  have e2 : 1 * c % 18446744073709551616 = c := by rw [Nat.one_mul]; exact Nat.mod_eq_of_lt (by omega)
  rw [e1, e2] at HM
  have HX := hid hx
  clear hx e1 e2
  have h0 : ¬ (c : Int) < 0 := by omega
  have hcm : ¬ (9223372036854775807 : Int) < (c : Int) := by omega
  obtain ⟨M, hM⟩ : ∃ M, madeCells #[.string { data := #[] }] c = M := ⟨_, rfl⟩
  have hMs : M.size = c := by rw [← hM]; simp [madeCells]
  obtain ⟨si, hsi, hz, hsz, hby⟩ := info_parts infoS
  have hmk : (Instr.makeSlice 24 (.int .i64 (c : Int)) (.int .i64 (c : Int))).run Tryz.prog w = .ok (.slice (some ⟨w.heap.size, 0, none⟩) c c) (w.alloc (.cells M 9)) := by
    have := run_makeSlice (P := Tryz.prog) w 24 9 si _ Tryz.underlying24 hsi hz .i64 .i64 (c : Int) (c : Int) (by omega) (by omega) (by rw [hsz]; simp; omega) (by rw [hby]; omega) (by omega)
    rw [hsz] at this
    simp only [Int.toNat_natCast, Nat.mul_one] at this
    rw [show madeCells (Value.string { data := #[] }).cells c = M from hM] at this
    exact this
  obtain ⟨W1, hW1⟩ : ∃ W1, w.alloc (.cells M 9) = W1 := ⟨_, rfl⟩
  rw [hW1] at hmk
  have HB1 : Hid (Below w.heap.size w W1) := hid (hW1 ▸ ext_alloc _ _)
  have HR1 : Hid (W1.heap[w.heap.size]? = some (.cells M 9 (0, 0))) := hid (hW1 ▸ heap_alloc_new _ _)
  have HX1 : Hid (W1.cell? ⟨b, 0, none⟩ = some (.string x)) := hid ((HB1.out.cell (World.block_lt_of_cell? _ _ HX.out)).trans HX.out)
  have HMS := hid hMs
  have HN1 : Hid ((List.replicate (Nat.min 1 c) (Value.string x)).length = Nat.min 1 c) := hid (List.length_replicate ..)
  clear hM hMs hsi hz hsz hby hW1
  go_enter Tryz.func248, Tryz.ntmps248
  go_wp2_with fail
  refine HM.out.mono ?_
  rintro e w1 ⟨rfl, hww⟩
  subst hww
  go_wp2_with (refine wpList_copy_own rfl _ _ 24 24 rfl 9 Tryz.underlying24 (by kernel_rfl) w1.heap.size 0 c c ⟨b, 0, none⟩ 1 c1 rfl rfl M 9 HR1.out (List.replicate (Nat.min 1 c) (.string x)) HN1.out ?_ ?_ ?_ ?_)
  · intro j v hj
    rw [List.getElem?_replicate] at hj
    split at hj
    · have hm1 : Nat.min 1 c ≤ 1 := Nat.min_le_left 1 c
      obtain rfl : j = 0 := by omega
      cases hj
      exact HX1.out
    · cases hj
  · have hm1 : Nat.min 1 c ≤ c := Nat.min_le_right 1 c
    rw [HN1.out, HMS.out]; omega
  · intro v hv
    rw [(List.mem_replicate.1 hv).2]; rfl
  have HRR := hid (rrow_step (k := 0) (m := Nat.min 1 c) (x := x) HB1.out HR1.out HMS.out (fun j hj => absurd hj (Nat.not_lt_zero _)) (by have hm1 : Nat.min 1 c ≤ c := Nat.min_le_right 1 c; omega))
  have hk1 : Nat.min 1 c ≤ c ∧ (0 < c → 1 ≤ Nat.min 1 c) := ⟨Nat.min_le_right 1 c, fun h => by unfold Nat.min; omega⟩
  clear hmk
  go_loopw [8] (fun v8 wr => ∃ k : Nat, k ≤ c ∧ (0 < c → 1 ≤ k) ∧ v8 = .int .i64 (k : Int) ∧ Hid (RRow w1 wr c x k)) (fun v _ => c - (intOf v).toNat)
  case atStart =>
    refine ⟨Nat.min 1 c, hk1.1, hk1.2, ?_, hid ?_⟩
    · first | rfl | (simp [goInt]; done)
    · have h := HRR.out
      rw [show 0 + Nat.min 1 c = Nat.min 1 c from Nat.zero_add _] at h
      first | exact h | (simpa using h)
  case round =>
    obtain ⟨k, hk, hk2, rfl, HR⟩ := hrel
    obtain ⟨hbl, cur, hrow, hcs, hcx⟩ := HR.out
    have hi0 : (0 : Int) ≤ (k : Int) := by omega
    by_cases hlt : k < c
    · have hi1 : (k : Int) < (c : Int) := by omega
      have hi2 : (k : Int) ≤ (c : Int) := by omega
      have hck : ¬ c = k := by omega
      obtain ⟨m, hm⟩ : ∃ m, Nat.min k (c - k) = m := ⟨_, rfl⟩
      have hmv : (m = k ∧ k ≤ c - k) ∨ (m = c - k ∧ c - k ≤ k) := by
        rw [← hm]
        rcases Nat.le_total k (c - k) with h | h
        · exact .inl ⟨Nat.min_eq_left h, h⟩
        · exact .inr ⟨Nat.min_eq_right h, h⟩
      have hmc : k + m ≤ c := by rcases hmv with ⟨h, h'⟩ | ⟨h, h'⟩ <;> omega
      have hm1 : 1 ≤ m := by have := hk2 (by omega); rcases hmv with ⟨h, h'⟩ | ⟨h, h'⟩ <;> omega
      clear hmv
      have hwm : IntKind.i64.wrap ((k : Int) + (m : Int)) = (k : Int) + (m : Int) := by rw [IntKind.wrap_i64]; omega
      have HN2 : Hid ((List.replicate m (Value.string x)).length = Nat.min k (c - k)) := hid (by rw [List.length_replicate, hm])
      have HN3 : Hid ((List.replicate m (Value.string x)).length = m) := hid (List.length_replicate ..)
      have HSTEP := hid (rrow_step (wr := wr.drew) (m := m) hbl.drew hrow hcs hcx hmc)
      have HCS := hid hcs; have HCX := hid hcx
      have HSRC : Hid (∀ j v, (List.replicate m (Value.string x))[j]? = some v → wr.drew.cell? ((⟨w1.heap.size, 0, none⟩ : Addr).add j) = some v) := hid (fun j v hj => by
        rw [List.getElem?_replicate] at hj
        split at hj
        · rename_i hjm
          cases hj
          rw [Addr.add_lit, Nat.zero_add, cell_of_row wr.drew _ _ _ _ _ hrow]
          have : m ≤ k := by rw [← hm]; exact Nat.min_le_left ..
          exact hcx j (by omega)
        · cases hj)
      have hcp := run_copy_row (P := Tryz.prog) wr.drew 24 24 3 9 w1.heap.size k (c - k) (c - k) ⟨w1.heap.size, 0, none⟩ k c cur 9 (List.replicate m (Value.string x)) Tryz.underlying24 (by kernel_rfl) hrow HN2.out HSRC.out (by rw [HN3.out, hcs]; omega) (fun v hv => by rw [(List.mem_replicate.1 hv).2]; rfl)
      obtain ⟨wn, hwn⟩ : ∃ wn, wr.drew.setRow w1.heap.size (cur.toList.take k ++ (List.replicate m (Value.string x) ++ cur.toList.drop (k + (List.replicate m (Value.string x)).length))).toArray = wn := ⟨_, rfl⟩
      rw [List.append_assoc] at hcp
      rw [hwn] at hcp HSTEP
      rw [HN3.out] at hcp
      unfold goInt at hcp
      have hmn : ((m : Nat) : Int) = (m : Int) := rfl
      clear hm hbl hcs hcx hwn hrow
      go_wp2_with fail
      go_region
      go_wp2_with fail
      go_roundw
      case rel => exact ⟨k + m, hmc, fun _ => by omega, by simp, HSTEP⟩
      case measure => simp [intOf]; omega
    · obtain rfl : k = c := by omega
      have HSL : Hid (Sl wr (.slice (some ⟨w1.heap.size, 0, none⟩) k k) k 1 (List.replicate k (.string x))) := hid (by
        refine ⟨by rw [List.length_replicate, Nat.mul_one], _, _, rfl, Nat.le_refl _, .inr ⟨_, _, rfl, fun j v hj => ?_⟩⟩
        rw [List.getElem?_replicate] at hj
        split at hj
        · rename_i hjk
          cases hj
          rw [Nat.zero_add, cell_of_row _ _ _ _ _ _ hrow]
          exact hcx j hjk
        · cases hj)
      have HBL := hid hbl
      clear hrow hcs hcx hbl hlt
      go_wp2
      go_ret
      exact ⟨_, rfl, HSL.out, HBL.out⟩
end Go.Proofs.YtloeaihbnnnncaaGreatDoor.worlds

/- Heaps: heap.types. Condition: the world was read, the thing's type is right. -/
set_option linter.unusedSimpArgs false
set_option linter.unusedVariables false
namespace Go.Proofs.YtloeaihbnnnncaaGreatDoor.worlds
open Go.RowKit Go.Proofs.YtloeaihbnnnncaaGreatDoor.lib Go.Proofs.YtloeaihbnnnncaaGreatDoor.maps Go.Proofs.YtloeaihbnnnncaaGreatDoor.classes Go.Proofs.YtloeaihbnnnncaaGreatDoor.errs Go.Proofs.YtloeaihbnnnncaaGreatDoor.descs

theorem cutArr_any (s : ByteArray) (w : World) : Calls Tryz.prog 55 #[.string s, .string { data := #[91] }] w fun e w' =>
    e = .returned (.tuple #[.string (bs (if s.data.toList.head? = some 91 then s.data.toList.drop 1 else s.data.toList)), .bool (decide (s.data.toList.head? = some 91))]) ∧ w = w' := by
  refine (Tryz.strings_CutPrefix s { data := #[91] } w).mono ?_
  rintro e w' ⟨rfl, rfl⟩
  refine ⟨?_, rfl⟩
  show Ending.returned (.tuple #[.string ⟨(Lib.trimPrefix s.data.toList [91]).toArray⟩, .bool (Lib.hasPrefix s.data.toList [91])]) = _
  unfold Lib.trimPrefix
  rw [prefix_one]
  by_cases h1 : s.data.toList.head? = some 91
  · rw [if_pos h1, decide_eq_true h1, if_pos rfl]; exact congrArg Ending.returned rfl
  · rw [if_neg h1, decide_eq_false h1, if_neg (by decide)]; exact congrArg Ending.returned rfl

set_option maxRecDepth 100000 in
set_option maxHeartbeats 8000000 in
theorem htypes_any (W : WL) (b : Nat) (x : Th) (w : World) (hW : Wd w b W) (hx : Vls w x.vh x.has) (hty : isTy x.ty.data.toList = true) (hn : x.has.length ≤ 2000000) :
    Calls Tryz.prog 208 #[.map (some b), .agg #[.string x.ty, x.vh]] w fun e w' => ∃ v, e = .returned v ∧ Sl w' v (typesT W x.ty.data.toList x.has.length).length 1 ((typesT W x.ty.data.toList x.has.length).map .string) ∧ Below w.heap.size w w' := by
  obtain ⟨ty, vh, has⟩ := x
  simp only at hx hty hn ⊢
  obtain ⟨ah, ch, rfl⟩ := hx.val
  obtain ⟨y, e0, hT⟩ : ∃ y e0, ty.data.toList = y :: e0 := by
    cases h : ty.data.toList with
    | nil => rw [h] at hty; exact absurd hty (by decide)
    | cons y e0 => exact ⟨y, e0, rfl⟩
  have HW := hid hW
  have HCP := hid (cutArr_any ty)
  obtain ⟨W1, hW1⟩ : ∃ W1, w.alloc (.cells #[.string ty, .slice ah has.length ch] 125) = W1 := ⟨_, rfl⟩
  have HB1 : Hid (Below w.heap.size w W1) := hid (hW1 ▸ ext_alloc _ _)
  have hlt1 : w.heap.size < W1.heap.size := by rw [← hW1]; simp
  have hr1 : W1.heap[w.heap.size]? = some (.cells #[.string ty, .slice ah has.length ch] 125 (0, 0)) := hW1 ▸ heap_alloc_new _ _
  have x0 : W1.cell? ⟨w.heap.size, 0, none⟩ = some (.string ty) := by rw [cell_of_row _ _ _ _ _ _ hr1]; rfl
  have x1 : W1.cell? ⟨w.heap.size, 1, none⟩ = some (.slice ah has.length ch) := by rw [cell_of_row _ _ _ _ _ _ hr1]; rfl
  by_cases hy : y = 91
  · subst hy
    have HZ : Hid (typesT W ty.data.toList has.length = List.replicate has.length (bs e0)) := hid (by rw [hT]; rfl)
    rw [hT] at HCP
    obtain ⟨E, hE⟩ : ∃ E, bs e0 = E := ⟨_, rfl⟩
    have HCP2 : Hid (∀ u, Calls Tryz.prog 55 #[.string ty, .string { data := #[91] }] u fun e w' => e = .returned (.tuple #[.string E, .bool true]) ∧ u = w') := hid (fun u => by rw [← hE]; exact HCP.out u)
    rw [hE] at HZ
    have HREP := hid (repeat_any W1.heap.size 1 has.length E (W1.alloc (.cells #[.string E] 9)) (by rw [World.cell?_alloc_at _ _ _ _ rfl]; rfl) hn)
    have HB2 : Hid (Below w.heap.size w (W1.alloc (.cells #[.string E] 9))) := hid (HB1.out.alloc HB1.out.size _)
    clear hT hE HCP hW hx hty hr1
    go_enter Tryz.func208, Tryz.ntmps208
    go_wp2_with fail
    refine (HCP2.out _).mono ?_
    rintro e w3 ⟨rfl, rfl⟩
    go_wp2_with fail
    refine HREP.out.mono ?_
    rintro e w4 ⟨v, rfl, hs4, hb4⟩
    have HS4 : Hid (Sl w4 v (typesT W ty.data.toList has.length).length 1 ((typesT W ty.data.toList has.length).map .string)) := hid (by rw [HZ.out, List.length_replicate, List.map_replicate]; exact hs4)
    have HB4 := hid (HB2.out.trans (hb4.mono HB2.out.size))
    obtain ⟨av, cv, hv⟩ := hs4.val
    subst hv
    clear hs4 hb4
    go_wp2
    go_ret
    exact ⟨_, rfl, HS4.out, HB4.out⟩
  · have HZ : Hid (typesT W ty.data.toList has.length = layOf W (classN ty.data.toList)) := hid (by rw [hT]; show (if y = 91 then List.replicate has.length (bs e0) else layOf W (classN (y :: e0))) = _; rw [if_neg hy])
    have hh : ¬ ty.data.toList.head? = some 91 := by rw [hT]; simpa using hy
    have HCP2 : Hid (∀ u, Calls Tryz.prog 55 #[.string ty, .string { data := #[91] }] u fun e w' => ∃ E, e = .returned (.tuple #[.string E, .bool false]) ∧ u = w') := hid (fun u => (HCP.out u).mono fun e w' h => ⟨_, h.1.trans (by rw [decide_eq_false hh]), h.2⟩)
    have HCL := hid (class_any ty W1 hty)
    have HTY := hid (types_any W b (classN ty.data.toList) W1 (HW.out.below HB1.out))
    clear hT HCP hW hx hty hr1 hh hy
    go_enter Tryz.func208, Tryz.ntmps208
    go_wp2_with fail
    refine (HCP2.out _).mono ?_
    rintro e w3 ⟨E, rfl, rfl⟩
    go_wp2_with fail
    refine HCL.out.mono ?_
    rintro e w4 ⟨rfl, rfl⟩
    go_wp2_with fail
    refine HTY.out.mono ?_
    rintro e w5 ⟨v, rfl, hs5, hb5⟩
    have HS5 := hid hs5
    have HB5 := hid (HB1.out.trans (hb5.mono HB1.out.size))
    obtain ⟨av, cv, hv⟩ := hs5.val
    subst hv
    clear hs5 hb5
    go_wp2
    go_ret
    exact ⟨_, rfl, by rw [HZ.out]; exact HS5.out, HB5.out⟩
end Go.Proofs.YtloeaihbnnnncaaGreatDoor.worlds

/- Heaps: heap.formed. Condition: the world was read. -/
set_option linter.unusedSimpArgs false
set_option linter.unusedVariables false
namespace Go.Proofs.YtloeaihbnnnncaaGreatDoor.worlds
open Go.RowKit Go.Proofs.YtloeaihbnnnncaaGreatDoor.lib Go.Proofs.YtloeaihbnnnncaaGreatDoor.maps Go.Proofs.YtloeaihbnnnncaaGreatDoor.classes Go.Proofs.YtloeaihbnnnncaaGreatDoor.errs Go.Proofs.YtloeaihbnnnncaaGreatDoor.descs Go.Proofs.YtloeaihbnnnncaaGreatDoor.names Go.Proofs.YtloeaihbnnnncaaGreatDoor.grow

theorem refs_of_ty {l : List UInt8} (h : isTy l = true) (hw : isWd l = false) : refs l = true := by
  obtain ⟨p, t, rfl, hp, h3, ht, _⟩ := right_parts h
  cases p with
  | nil =>
    rw [List.nil_append] at hw ⊢
    rcases ht with rfl | rfl | ⟨nm, rfl, _⟩
    · exact absurd hw (by decide)
    · exact absurd hw (by decide)
    · rfl
  | cons z p =>
    have := hp z (List.mem_cons_self ..)
    subst this
    rfl
set_option maxRecDepth 100000 in
theorem run_face (v0 v1 v2 v4 v5 : Value) (f : Bool) (w : World) : (Instr.field 28 (.agg #[v0, v1, v2, .bool f, v4, v5]) 3).run Tryz.prog w = .ok (.bool f) w := by
  simp [Instr.field, run_underlying Tryz.underlying28]
  first | rfl | kernel_rfl | (go_simp; done) | (go_simp; rfl)
def slR (n : Nat) : Value → World → Prop := fun v _ => ∃ a c, v = .slice a n c
theorem slR_stays (n : Nat) : ∀ v u u', Below u.heap.size u u' → slR n v u → slR n v u' := fun _ _ _ _ h => h

end Go.Proofs.YtloeaihbnnnncaaGreatDoor.worlds

/- sub.Is, and the command is. Condition: the classes are not great. -/
set_option linter.unusedSimpArgs false
set_option linter.unusedVariables false
namespace Go.Proofs.YtloeaihbnnnncaaGreatDoor.desks
open Go.RowKit Go.Proofs.YtloeaihbnnnncaaGreatDoor.lib Go.Proofs.YtloeaihbnnnncaaGreatDoor.keep Go.Proofs.YtloeaihbnnnncaaGreatDoor.errs Go.Proofs.YtloeaihbnnnncaaGreatDoor.names Go.Proofs.YtloeaihbnnnncaaGreatDoor.descs Go.Proofs.YtloeaihbnnnncaaGreatDoor.ins Go.Proofs.YtloeaihbnnnncaaGreatDoor.nums Go.Proofs.YtloeaihbnnnncaaGreatDoor.flows Go.Proofs.YtloeaihbnnnncaaGreatDoor.txts Go.Proofs.YtloeaihbnnnncaaGreatDoor.maps Go.Proofs.YtloeaihbnnnncaaGreatDoor.worlds Go.Proofs.YtloeaihbnnnncaaGreatDoor.grow Go.Proofs.YtloeaihbnnnncaaGreatDoor.classes

theorem cls_row {w : World} {b : Nat} {W : WL} (h : WAt w b W) (n : ByteArray) : ∃ (x1 x2 : ByteArray) (a1 : Option Addr) (n1 c1 : Nat) (x4 : Bool) (a2 : Option Addr) (n2 c2 : Nat) (a3 : Option Addr) (n3 c3 : Nat), (cAt W n).cells.toArray = #[.string x1, .string x2, .slice a1 n1 c1, .bool x4, .slice a2 n2 c2, .slice a3 n3 c3] := by
  obtain ⟨a1, c1, a2, c2, a3, c3, e1, e2, e3⟩ := cls_vals (h.at_ n)
  refine ⟨(cAt W n).nm, (cAt W n).sup, a1, (cAt W n).faces.length, c1, (cAt W n).face, a2, (cAt W n).fields.length, c2, a3, (cAt W n).mets.length, c3, ?_⟩
  unfold CV.cells
  rw [e1, e2, e3]
/-- what world.With answers -/
def withF (l : List CV) (n : ByteArray) : Int := if (readW l).1 = 0 then (if (getK (readW l).2 n).isSome = true then 0 else 3) else (readW l).1
def WithBy (w : World) (l : List CV) (n : ByteArray) (e : Ending) (w' : World) : Prop :=
  Below w.heap.size w w' ∧ (if withF l n = 0 then ∃ b, e = .returned (.tuple #[.map (some b), .nilIface]) ∧ Wd w' b (readW l).2 else e = .returned (.tuple #[.map none, errVal (withF l n)]))
theorem with_ok {w w' : World} {l : List CV} {n : ByteArray} {b : Nat} (h : withF l n = 0) (hb : Below w.heap.size w w') (hw : Wd w' b (readW l).2) : WithBy w l n (.returned (.tuple #[.map (some b), .nilIface])) w' := by
  refine ⟨hb, ?_⟩; rw [if_pos h]; exact ⟨b, rfl, hw⟩
theorem with_err {w w' : World} {l : List CV} {n : ByteArray} {z : Int} (h : withF l n = z) (hz : z ≠ 0) (hb : Below w.heap.size w w') : WithBy w l n (.returned (.tuple #[.map none, .iface 58 (.int .i64 z)])) w' := by
  refine ⟨hb, ?_⟩; rw [h, if_neg hz]; unfold errVal; rw [if_neg hz]
set_option maxRecDepth 100000 in
set_option maxHeartbeats 4000000 in
theorem with_any (va : Value) (l : List CV) (n : ByteArray) (w : World) (hl : Clss w va l) (hf : FormsAt w) (hsm : ∀ c ∈ l, SmallC c) (hn : l.length ≤ 1048576) :
    Calls Tryz.prog 188 #[va, .string n] w (WithBy w l n) := by
  have HR := hid (readwd_any va l w hl hf hsm hn)
  clear hl hf hsm hn
  go_enter Tryz.func188, Tryz.ntmps188
  go_wp2_with fail
  refine HR.out.mono ?_
  rintro e w1 ⟨hb1, h1⟩
  have HB := hid hb1
  clear hb1 HR
  obtain ⟨z, hz⟩ : ∃ z, (readW l).1 = z := ⟨_, rfl⟩
  obtain ⟨W, hW⟩ : ∃ W, (readW l).2 = W := ⟨_, rfl⟩
  rw [hz, hW] at h1
  by_cases h0 : z = 0
  · rw [if_pos h0] at h1
    obtain ⟨rfl, hwd⟩ := h1
    have HWD := hid hwd
    have hlk := world_look_ok hwd.at_ n
    obtain ⟨x1, x2, a1, n1, c1, x4, a2, n2, c2, a3, n3, c3, hrow⟩ := cls_row hwd.at_ n
    rw [hrow] at hlk
    clear hwd hrow
    cases hg : (getK W n).isSome with
    | true =>
      have HZ : Hid (withF l n = 0) := hid (by unfold withF; rw [hz, hW, if_pos h0, hg]; rfl)
      have HWD2 : Hid (∀ u, Below w1.heap.size w1 u → Wd u w.heap.size (readW l).2) := hid (fun u hu => by rw [hW]; exact HWD.out.below hu)
      rw [hg] at hlk
      clear hg hz hW h0
      go_wp2_with fail
      go_ret2
      exact with_ok HZ.out (HB.out.trans ((ext_alloc w1 _).mono HB.out.size)) (HWD2.out _ (ext_alloc w1 _))
    | false =>
      have HZ : Hid (withF l n = 3) := hid (by unfold withF; rw [hz, hW, if_pos h0, hg]; rfl)
      rw [hg] at hlk
      clear hg hz hW h0
      go_wp2_with fail
      go_ret2
      exact with_err HZ.out (by decide) (HB.out.trans ((ext_alloc w1 _).mono HB.out.size))
  · rw [if_neg h0] at h1
    subst h1
    have HZ : Hid (withF l n = z) := hid (by unfold withF; rw [hz, if_neg h0])
    have HN0 := hid h0
    rw [show errVal z = .iface 58 (.int .i64 z) from by unfold errVal; rw [if_neg h0]]
    clear hz hW h0
    go_wp2_with fail
    go_ret2
    exact with_err HZ.out HN0.out HB.out

/-- what sub.Is answers: its error, whether -/
def isF (l : List CV) (a b : ByteArray) : Int × Bool := if withF l a = 0 then (if (getK (readW l).2 b).isSome = true then (0, inTexts b (everyU (readW l).2 a)) else (3, false)) else (withF l a, false)
set_option maxRecDepth 100000 in
set_option maxHeartbeats 4000000 in
theorem is_any (va : Value) (l : List CV) (a b : ByteArray) (w : World) (hl : Clss w va l) (hf : FormsAt w) (hsm : ∀ c ∈ l, SmallC c) (hn : l.length ≤ 1048576) :
    Calls Tryz.prog 134 #[va, .string a, .string b] w fun e w' => e = .returned (.tuple #[.bool (isF l a b).2, errVal (isF l a b).1]) ∧ Below w.heap.size w w' := by
  have HR := hid (with_any va l a w hl hf hsm hn)
  obtain ⟨F, hF⟩ : ∃ F, isF l a b = F := ⟨_, rfl⟩
  have HF := hid hF
  rw [hF]
  clear hl hf hsm hn hF
  go_enter Tryz.func134, Tryz.ntmps134
  go_wp2_with fail
  refine HR.out.mono ?_
  rintro e w1 ⟨hb1, h1⟩
  have HB := hid hb1
  clear hb1 HR
  obtain ⟨z, hz⟩ : ∃ z, withF l a = z := ⟨_, rfl⟩
  obtain ⟨W, hW⟩ : ∃ W, (readW l).2 = W := ⟨_, rfl⟩
  rw [hz, hW] at h1
  by_cases h0 : z = 0
  · rw [if_pos h0] at h1
    obtain ⟨mb, rfl, hwd⟩ := h1
    have HWD := hid hwd
    have hlk := world_look_ok hwd.at_ b
    obtain ⟨x1, x2, a1, n1, c1, x4, a2, n2, c2, a3, n3, c3, hrow⟩ := cls_row hwd.at_ b
    rw [hrow] at hlk
    clear hwd hrow
    cases hg : (getK W b).isSome with
    | true =>
      have HZ : Hid (F = (0, inTexts b (everyU W a))) := hid (by rw [← HF.out]; unfold isF; rw [hz, hW, if_pos h0, if_pos hg])
      rw [hg] at hlk
      have HLE : Hid ((everyU W a).length ≤ 1000000000000) := hid (by have := rounds_most W a (most W); have := HWD.out.most; unfold everyU; omega)
      have HE := hid (fun u (hu : Below w1.heap.size w1 u) => every_any W mb a u (HWD.out.at_.below hu) HWD.out.good.faces' HWD.out.most)
      clear hg hz hW h0
      go_wp2_with fail
      refine (HE.out _ (ext_alloc w1 _)).mono ?_
      rintro e w4 ⟨v, rfl, hsl, hb4⟩
      have HSL := hid hsl
      have HB4 : Hid (Below w.heap.size w w4) := hid ((HB.out.trans ((ext_alloc w1 _).mono HB.out.size)).trans (hb4.mono (by have := HB.out.size; simp; omega)))
      obtain ⟨av, cv, rfl⟩ := hsl.val
      clear hsl hb4
      go_wp2_with fail
      refine (hasText_any _ _ _ (sortB (everyU W a)) _ _ HSL.out HLE.out).mono ?_
      rintro e w6 ⟨rfl, rfl⟩
      go_wp2_with fail
      go_ret2
      refine ⟨?_, HB4.out⟩
      rw [HZ.out, inT_sort]
      rfl
    | false =>
      have HZ : Hid (F = (3, false)) := hid (by rw [← HF.out]; unfold isF; rw [hz, hW, if_pos h0, if_neg (by rw [hg]; decide)])
      rw [hg] at hlk
      clear hg hz hW h0
      go_wp2_with fail
      go_ret2
      exact ⟨by rw [HZ.out]; rfl, HB.out.trans ((ext_alloc w1 _).mono HB.out.size)⟩
  · rw [if_neg h0] at h1
    subst h1
    have HZ : Hid (F = (z, false)) := hid (by rw [← HF.out]; unfold isF; rw [hz, if_neg h0])
    rw [show errVal z = .iface 58 (.int .i64 z) from by unfold errVal; rw [if_neg h0]]
    have HE : Hid (errVal z = .iface 58 (.int .i64 z)) := hid (by unfold errVal; rw [if_neg h0])
    clear hz hW h0
    go_wp2_with fail
    go_ret2
    exact ⟨by rw [HZ.out]; show _ = Ending.returned (.tuple #[.bool false, errVal z]); rw [HE.out]; rfl, HB.out⟩
end Go.Proofs.YtloeaihbnnnncaaGreatDoor.desks

/- The command is, where it does not fail. Conditions: the classes are not great; the variables that the library reads hold what they hold at the start. -/
set_option linter.unusedSimpArgs false
set_option linter.unusedVariables false
namespace Go.Proofs.YtloeaihbnnnncaaGreatDoor.desks
open Go.RowKit Go.Proofs.YtloeaihbnnnncaaGreatDoor.lib Go.Proofs.YtloeaihbnnnncaaGreatDoor.keep Go.Proofs.YtloeaihbnnnncaaGreatDoor.errs Go.Proofs.YtloeaihbnnnncaaGreatDoor.names Go.Proofs.YtloeaihbnnnncaaGreatDoor.descs Go.Proofs.YtloeaihbnnnncaaGreatDoor.ins Go.Proofs.YtloeaihbnnnncaaGreatDoor.nums Go.Proofs.YtloeaihbnnnncaaGreatDoor.flows Go.Proofs.YtloeaihbnnnncaaGreatDoor.txts Go.Proofs.YtloeaihbnnnncaaGreatDoor.maps Go.Proofs.YtloeaihbnnnncaaGreatDoor.worlds Go.Proofs.YtloeaihbnnnncaaGreatDoor.grow Go.Proofs.YtloeaihbnnnncaaGreatDoor.classes

set_option maxRecDepth 100000 in
set_option maxHeartbeats 8000000 in
theorem is_tell (p : Nat) (vw vl vs : Value) (l : List CV) (a b : List UInt8) (B : Bool) (w : World) (A : Nat) (hA : A < w.heap.size) (hp : w.heap[p]? = some (.cells #[vw, vl] 101 (0, 0))) (hl : Clss w vw l) (hf : FormsAt w) (hsm : ∀ c ∈ l, SmallC c) (hn : l.length ≤ 1048576)
    (hs : Sl w vs 2 1 [sv a, sv b]) (hB : isF l (bs a) (bs b) = (0, B)) :
    Calls Tryz.prog 132 #[.pointer (some ⟨p, 0, none⟩), vs] w (TellBy A (fun x u => x = (if B = true then wYes else wNo) ∧ Below w.heap.size w u) w) := by
  have HI := hid (fun (u : World) (hu : Below w.heap.size w u) => is_any vw l (bs a) (bs b) u (hl.below hu) (hf.below hu) hsm hn)
  rw [hB] at HI
  have hlp := (Array.getElem?_eq_some_iff.1 hp).1
  obtain ⟨av, cv, rfl⟩ := hl.sl.val
  have HD : Hid (∀ u, Below w.heap.size w u → u.cell? ⟨p, 0, none⟩ = some (.slice av l.length cv)) := hid (fun u hu => by rw [cell_of_row _ _ _ _ _ _ ((hu.block _ hlp).trans hp)]; rfl)
  obtain ⟨ad, cp, rfl⟩ := hs.val
  obtain ⟨g, o, rfl, _, _, _⟩ := hs.at1 (k := 0) (by decide)
  have HC : Hid (∀ u, Below w.heap.size w u → u.cell? ⟨g, o, none⟩ = some (.string (bs a)) ∧ u.cell? ⟨g, o + 1, none⟩ = some (.string (bs b))) := hid (fun u hu => by
    have key : ∀ (j : Nat) (x : List UInt8), j < 2 → [sv a, sv b][j]? = some (sv x) → u.cell? ⟨g, o + j, none⟩ = some (.string (bs x)) := fun j x hj hx => by
      obtain ⟨g', o', he, y, hy, hc⟩ := (hs.below hu).at1 hj
      cases he
      rw [hx] at hy
      rw [hc, ← Option.some.inj hy]
      rfl
    exact ⟨key 0 a (by decide) rfl, key 1 b (by decide) rfl⟩)
  have HA := hid hA
  obtain ⟨nv, hnv⟩ : ∃ x, l.length = x := ⟨_, rfl⟩
  rw [hnv] at HD HI
  obtain ⟨x0, hx0⟩ : ∃ x, bs a = x := ⟨_, rfl⟩
  obtain ⟨x1, hx1⟩ : ∃ x, bs b = x := ⟨_, rfl⟩
  rw [hx0, hx1] at HC HI
  rw [show errVal (((0, B) : Int × Bool).1) = .nilIface from rfl] at HI
  rw [hnv] at *
  simp only at HI
  clear hA hp hl hf hsm hn hs hB hlp hnv hx0 hx1
  go_enter Tryz.func132, Tryz.ntmps132
  go_wp2_with fail
  refine wp_region_ext [(10, eqR (.tuple #[.bool B, .nilIface])), (13, eqR (.bool B))] ⟨eqR_stays _, eqR_stays _, trivial⟩ (by kernel_rfl) (by kernel_rfl) ?_
  refine wpG_calc 1 rfl rfl rfl (fun u => by go_simp; rfl) ?_
  simp only [Act.put, List.setIfInBounds_toArray, List.set_cons_zero, List.set_cons_succ]
  refine wpG_calc 2 rfl rfl rfl (fun u => by go_simp; rfl) ?_
  simp only [Act.put, List.setIfInBounds_toArray, List.set_cons_zero, List.set_cons_succ]
  refine wpG_calc 3 rfl rfl rfl (fun u => by go_simp; rfl) ?_
  simp only [Act.put, List.setIfInBounds_toArray, List.set_cons_zero, List.set_cons_succ]
  refine wpG_read 4 rfl rfl (.slice av nv cv) rfl ?_ ?_
  · intro u hu hh
    have c0 := HD.out u hu
    go_simp
    try rfl
  simp only [Act.put, List.setIfInBounds_toArray, List.set_cons_zero, List.set_cons_succ]
  refine wpG_calc 5 rfl rfl rfl (fun u => by go_simp; rfl) ?_
  simp only [Act.put, List.setIfInBounds_toArray, List.set_cons_zero, List.set_cons_succ]
  refine wpG_calc 6 rfl rfl rfl (fun u => by go_simp; rfl) ?_
  simp only [Act.put, List.setIfInBounds_toArray, List.set_cons_zero, List.set_cons_succ]
  refine wpG_read 7 rfl rfl (.string x0) rfl ?_ ?_
  · intro u hu hh
    obtain ⟨c0, c1⟩ := HC.out u hu
    go_simp
    try rfl
  simp only [Act.put, List.setIfInBounds_toArray, List.set_cons_zero, List.set_cons_succ]
  refine wpG_calc 8 rfl rfl rfl (fun u => by go_simp; rfl) ?_
  simp only [Act.put, List.setIfInBounds_toArray, List.set_cons_zero, List.set_cons_succ]
  refine wpG_calc 9 rfl rfl rfl (fun u => by go_simp; rfl) ?_
  simp only [Act.put, List.setIfInBounds_toArray, List.set_cons_zero, List.set_cons_succ]
  refine wpG_read 10 rfl rfl (.string x1) rfl ?_ ?_
  · intro u hu hh
    obtain ⟨c0, c1⟩ := HC.out u hu
    go_simp
    try rfl
  simp only [Act.put, List.setIfInBounds_toArray, List.set_cons_zero, List.set_cons_succ]
  refine wpG_rel 11 rfl rfl rfl ?_ ?_
  · intro u hu hh
    go_simp
    refine (HI.out u hu).mono ?_
    rintro e u2 ⟨rfl, hb2⟩
    exact ⟨_, rfl, rfl, hb2⟩
  intro vS ⟨uS, _, hrS⟩
  obtain rfl := hrS
  simp only [Act.put, List.setIfInBounds_toArray, List.set_cons_zero, List.set_cons_succ]
  refine wpG_calc 12 rfl rfl rfl (fun u => by go_simp; rfl) ?_
  simp only [Act.put, List.setIfInBounds_toArray, List.set_cons_zero, List.set_cons_succ]
  refine wpG_calc 13 rfl rfl rfl (fun u => by go_simp; rfl) ?_
  simp only [Act.put, List.setIfInBounds_toArray, List.set_cons_zero, List.set_cons_succ]
  refine wpG_rel 14 rfl rfl rfl ?_ ?_
  · intro u hu hh
    go_simp
    refine (mustB_ok B u).mono ?_
    rintro e u2 ⟨rfl, rfl⟩
    exact ⟨_, rfl, rfl, Below.refl _ _⟩
  intro vM ⟨uM, _, hrM⟩
  obtain rfl := hrM
  simp only [Act.put, List.setIfInBounds_toArray, List.set_cons_zero, List.set_cons_succ]
  refine wpG_nil fun w' hb' hF => ?_
  have HBW := hid hb'
  clear hb' hF
  cases B with
  | true =>
    go_wp2_with fail
    go_ret
    exact ⟨HBW.out.block _ HA.out, .inl ⟨wYes, rfl, rfl, HBW.out⟩⟩
  | false =>
    go_wp2_with fail
    go_ret
    exact ⟨HBW.out.block _ HA.out, .inl ⟨wNo, rfl, rfl, HBW.out⟩⟩
end Go.Proofs.YtloeaihbnnnncaaGreatDoor.desks

/- desk.Run at a script whose lines leave the desk as it is. Conditions: at most 100 lines; the variables that the library reads hold what they hold at the start; the script is not long. -/
set_option linter.unusedSimpArgs false
set_option linter.unusedVariables false
namespace Go.Proofs.YtloeaihbnnnncaaGreatDoor.desks
open Go.RowKit Go.Proofs.YtloeaihbnnnncaaGreatDoor.lib Go.Proofs.YtloeaihbnnnncaaGreatDoor.keep Go.Proofs.YtloeaihbnnnncaaGreatDoor.errs Go.Proofs.YtloeaihbnnnncaaGreatDoor.names Go.Proofs.YtloeaihbnnnncaaGreatDoor.descs Go.Proofs.YtloeaihbnnnncaaGreatDoor.ins Go.Proofs.YtloeaihbnnnncaaGreatDoor.nums Go.Proofs.YtloeaihbnnnncaaGreatDoor.flows Go.Proofs.YtloeaihbnnnncaaGreatDoor.txts Go.Proofs.YtloeaihbnnnncaaGreatDoor.maps Go.Proofs.YtloeaihbnnnncaaGreatDoor.worlds Go.Proofs.YtloeaihbnnnncaaGreatDoor.grow Go.Proofs.YtloeaihbnnnncaaGreatDoor.classes

/-- a script's lines: the last one is none if it is empty -/
def linesOf (s : List UInt8) : List (List UInt8) := if (cutsOf 10 s).getLast? = some [] then (cutsOf 10 s).dropLast else cutsOf 10 s
/-- an empty desk -/
def Empty (p : Nat) (w : World) : Prop := w.heap[p]? = some (.cells #[.slice none 0 0, .slice none 0 0] 101 (0, 0))
theorem lit_sl {w : World} {ws : List (List UInt8)} {b n : Nat} (hb : w.heap[b]? = some (.cells (ws.map sv).toArray 9 (0, 0))) (hn : n = ws.length) : Sl w (.slice (some ⟨b, 0, none⟩) n n) n 1 (ws.map sv) := by
  subst hn
  refine ⟨by simp, _, _, rfl, Nat.le_refl _, .inr ⟨_, _, rfl, fun j x hj => ?_⟩⟩
  rw [cell_of_row _ _ _ _ _ _ hb, Nat.zero_add]
  simpa using hj
theorem lit_cut {w : World} {ws : List (List UInt8)} {b n c : Nat} (hb : w.heap[b]? = some (.cells (ws.map sv).toArray 9 (0, 0))) (hn : n = ws.length - 1) (hc : n ≤ c) : Sl w (.slice (some ⟨b, 0, none⟩) n c) n 1 (ws.dropLast.map sv) := by
  subst hn
  refine ⟨by simp, _, _, rfl, hc, .inr ⟨_, _, rfl, fun j x hj => ?_⟩⟩
  rw [cell_of_row _ _ _ _ _ _ hb, Nat.zero_add]
  have hj' := (List.getElem?_eq_some_iff.1 hj).1
  simp only [List.length_map, List.length_dropLast] at hj'
  rw [List.getElem?_map, List.getElem?_dropLast, if_pos hj'] at hj
  simpa using hj

set_option maxRecDepth 100000 in
set_option maxHeartbeats 8000000 in
theorem run_loop (s : ByteArray) (f : List UInt8 → List UInt8) (w : World) (hv : Vars w) (hs : s.size ≤ 10000000) (hl : (linesOf s.data.toList).length ≤ 100)
    (HL : ∀ x ∈ linesOf s.data.toList, ∀ (u : World) (p : Nat), Below w.heap.size w u → Empty p u → Calls Tryz.prog 40 #[.pointer (some ⟨p, 0, none⟩), .string (bs x)] u fun e u' => e = .returned (.string (bs (f x))) ∧ Below u.heap.size u u') :
    Calls Tryz.prog 14 #[.string s] w fun e w' => ∃ v, e = .returned v ∧ Sl w' v (linesOf s.data.toList).length 1 ((linesOf s.data.toList).map fun x => sv (f x)) ∧ Below w.heap.size w w' := by
  have HS := hid (splitc_any s 10 w hv hs)
  obtain ⟨C, hC⟩ : ∃ C, cutsOf 10 s.data.toList = C := ⟨_, rfl⟩
  obtain ⟨c0, cr, hc0⟩ := cuts_cons 10 s.data.toList
  have hCne : 1 ≤ C.length := by rw [← hC, hc0]; simp
  obtain ⟨L, hL⟩ : ∃ L, linesOf s.data.toList = L := ⟨_, rfl⟩
  have HLE : Hid (L = if C.getLast? = some [] then C.dropLast else C) := hid (by rw [← hL, ← hC]; rfl)
  have HLN := hid HL
  rw [hC] at HS
  rw [hL] at HLN hl
  rw [hL]
  have HLL := hid hl
  obtain ⟨W1, hW1⟩ : ∃ W1, w.alloc (.cells (C.map sv).toArray 9) = W1 := ⟨_, rfl⟩
  have HB1 : Hid (Below w.heap.size w W1) := hid (hW1 ▸ ext_alloc _ _)
  have HC1 : Hid (W1.heap[w.heap.size]? = some (.cells (C.map sv).toArray 9 (0, 0))) := hid (hW1 ▸ heap_alloc_new _ _)
  rw [hW1] at HS
  have hlast : C.length - 1 < C.length := by omega
  have cl : W1.cell? ⟨w.heap.size, C.length - 1, none⟩ = some (sv C[C.length - 1]) := by
    rw [cell_of_row _ _ _ _ _ _ HC1.out]; simp [hlast]
  obtain ⟨y, hy⟩ : ∃ y, C[C.length - 1] = y := ⟨_, rfl⟩
  rw [hy] at cl
  have HGL : Hid (C.getLast? = some y) := hid (by rw [List.getLast?_eq_getElem?, List.getElem?_eq_getElem hlast, hy])
  obtain ⟨N, hN⟩ : ∃ N, C.length = N := ⟨_, rfl⟩
  rw [hN] at HS hCne cl
  have HNC := hid hN
  clear hW1 hC hc0 hL hl HL hy hlast hv hs hN
  have hNi : (1 : Int) ≤ (N : Int) := by omega
  have hNe : (N : Int) - 1 = ((N - 1 : Nat) : Int) := by omega
  obtain ⟨M, hM⟩ : ∃ M, N - 1 = M := ⟨_, rfl⟩
  rw [hM] at cl hNe
  have hMN : (M : Int) < (N : Int) := by omega
  have hMN2 : M ≤ N := by omega
  have hM0 : (0 : Int) ≤ (M : Int) := by omega
  have HMN := hid hM
  clear hM
  have cl2 : W1.cell? ⟨w.heap.size, M, none⟩ = some (.string (bs y)) := cl
  obtain ⟨yb, hyb⟩ : ∃ yb, bs y = yb := ⟨_, rfl⟩
  rw [hyb] at cl2
  clear cl
  go_enter Tryz.func14, Tryz.ntmps14
  go_wp2_with fail
  refine HS.out.mono ?_
  rintro e w1 ⟨rfl, rfl⟩
  by_cases hy : y = []
  · have hy1 : (yb.toList == []) = true := by rw [← hyb, ByteArray.toList_eq]; show (y == []) = true; rw [hy]; rfl
    have hy2 : yb.toList = [] := by simpa using hy1
    have HLE2 : Hid (L = C.dropLast) := hid (by rw [HLE.out, if_pos (by rw [HGL.out, hy])])
    have HSL : Hid (Sl w1 (.slice (some ⟨w.heap.size, 0, none⟩) M N) M 1 (L.map sv)) := hid (by rw [HLE2.out]; exact lit_cut HC1.out (by rw [HNC.out]; exact HMN.out.symm) hMN2)
    have HLM : Hid (L.length = M) := hid (by rw [HLE2.out, List.length_dropLast, HNC.out]; exact HMN.out)
    have hM100 : ¬ (100 : Int) < (M : Int) := by have := HLL.out; have := HLM.out; omega
    clear hy
    go_wp2_with fail
    obtain ⟨W6, hW6⟩ : ∃ W6, w1.alloc (.cells #[.slice none 0 0, .slice none 0 0] 101) = W6 := ⟨_, rfl⟩
    have HE6 : Hid (Empty w1.heap.size W6) := hid (hW6 ▸ heap_alloc_new _ _)
    have HB6 : Hid (Below w.heap.size w W6) := hid (hW6 ▸ HB1.out.alloc HB1.out.size _)
    have HSL6 := hid (HSL.out.below (hW6 ▸ ext_alloc w1 _ : Below w1.heap.size w1 W6))
    have HO6 : Hid (Out W6 W6 9 1 (.slice none 0 0) 0 []) := hid (Out.nil _ _ _)
    clear cl2
    go_loopw [5, 31] (fun v5 v31 wr => ∃ k : Nat, k ≤ M ∧ v31 = .int .i64 (k : Int) ∧ Hid (Out W6 wr 9 1 v5 k ((L.take k).map fun x => sv (f x)))) (fun _ v31 _ => M - (intOf v31).toNat)
    case atStart => exact ⟨0, Nat.zero_le _, rfl, by rw [hW6]; exact HO6⟩
    case round =>
      clear hW6
      obtain ⟨k, hk, rfl, HO⟩ := hrel
      obtain ⟨av, cv, rfl⟩ := HO.out.sl.val
      have hk0 : (0 : Int) ≤ (k : Int) := by omega
      by_cases hlt : k < M
      · have hk1 : (k : Int) < (M : Int) := by omega
        have hkL : k < L.length := by rw [HLM.out]; exact hlt
        obtain ⟨g, o, hab, q, hq, hcq⟩ := (HSL6.out.below HO.out.below).at1 hlt
        cases hab
        rw [Nat.zero_add] at hcq
        obtain ⟨x, hx⟩ : ∃ x, L[k] = x := ⟨_, rfl⟩
        have HX : Hid (L.take (k + 1) = L.take k ++ [x]) := hid (by rw [List.take_add_one, List.getElem?_eq_getElem hkL, hx]; rfl)
        obtain rfl : q = .string (bs x) := by
          rw [List.getElem?_map, List.getElem?_eq_getElem hkL, hx] at hq
          exact (Option.some.inj hq).symm
        have HC := hid (HLN.out x (by rw [← hx]; exact List.getElem_mem hkL) wr w1.heap.size (HB6.out.trans (HO.out.below.mono HB6.out.size)) ((HO.out.below.block _ (Array.getElem?_eq_some_iff.1 HE6.out).1).trans HE6.out))
        obtain ⟨xb, hxb⟩ : ∃ xb, bs x = xb := ⟨_, rfl⟩
        rw [hxb] at HC hcq
        clear hq hx hxb
        go_wp2_with fail
        refine HC.out.mono ?_
        rintro e w2 ⟨rfl, hb2⟩
        have HO2 := hid (HO.out.later hb2)
        clear hb2
        go_wp2_with (at_builtin; refine wpList_append_lit W6 w2 _ rfl _ _ 24 rfl 9 (.string { data := #[] }) 1 16 1 Tryz.underlying24 infoS rfl (by decide) _ _ _ HO2.out rfl rfl rfl ?_ ?_ ?_ ?_)
        all_goals first | (intro v' w' ho hg) | omega | (simp [Value.oneCell']; done) | skip
        have HO3 := hid ho
        clear ho hg
        go_wp2
        go_roundw
        case rel => exact ⟨k + 1, by omega, by go_num, hid (by rw [HX.out, List.map_append, List.map_take]; exact HO3.out)⟩
        case measure => simp [intOf]; omega
      · obtain rfl : k = M := by omega
        have HEND : Hid (L.take k = L) := hid (List.take_of_length_le (by rw [HLM.out]; exact Nat.le_refl _))
        clear hlt
        go_wp2_with fail
        go_ret
        refine ⟨_, rfl, ?_, HB6.out.trans (HO.out.below.mono HB6.out.size)⟩
        have h := HO.out.sl
        rw [HEND.out] at h
        rw [HLM.out]
        exact h
  · have hy1 : (yb.toList == []) = false := by rw [← hyb, ByteArray.toList_eq]; show (y == []) = false; simpa using hy
    have hy2 : ¬ yb.toList = [] := by simpa using hy1
    have HLE2 : Hid (L = C) := hid (by rw [HLE.out, if_neg (by rw [HGL.out]; intro h; exact hy (Option.some.inj h))])
    have HSL : Hid (Sl w1 (.slice (some ⟨w.heap.size, 0, none⟩) N N) N 1 (L.map sv)) := hid (by rw [HLE2.out]; exact lit_sl HC1.out HNC.out.symm)
    have HLM : Hid (L.length = N) := hid (by rw [HLE2.out, HNC.out])
    have hM100 : ¬ (100 : Int) < (N : Int) := by have := HLL.out; have := HLM.out; omega
    clear hy
    go_wp2_with fail
    obtain ⟨W6, hW6⟩ : ∃ W6, w1.alloc (.cells #[.slice none 0 0, .slice none 0 0] 101) = W6 := ⟨_, rfl⟩
    have HE6 : Hid (Empty w1.heap.size W6) := hid (hW6 ▸ heap_alloc_new _ _)
    have HB6 : Hid (Below w.heap.size w W6) := hid (hW6 ▸ HB1.out.alloc HB1.out.size _)
    have HSL6 := hid (HSL.out.below (hW6 ▸ ext_alloc w1 _ : Below w1.heap.size w1 W6))
    have HO6 : Hid (Out W6 W6 9 1 (.slice none 0 0) 0 []) := hid (Out.nil _ _ _)
    clear cl2
    go_loopw [5, 31] (fun v5 v31 wr => ∃ k : Nat, k ≤ N ∧ v31 = .int .i64 (k : Int) ∧ Hid (Out W6 wr 9 1 v5 k ((L.take k).map fun x => sv (f x)))) (fun _ v31 _ => N - (intOf v31).toNat)
    case atStart => exact ⟨0, Nat.zero_le _, rfl, by rw [hW6]; exact HO6⟩
    case round =>
      clear hW6
      obtain ⟨k, hk, rfl, HO⟩ := hrel
      obtain ⟨av, cv, rfl⟩ := HO.out.sl.val
      have hk0 : (0 : Int) ≤ (k : Int) := by omega
      by_cases hlt : k < N
      · have hk1 : (k : Int) < (N : Int) := by omega
        have hkL : k < L.length := by rw [HLM.out]; exact hlt
        obtain ⟨g, o, hab, q, hq, hcq⟩ := (HSL6.out.below HO.out.below).at1 hlt
        cases hab
        rw [Nat.zero_add] at hcq
        obtain ⟨x, hx⟩ : ∃ x, L[k] = x := ⟨_, rfl⟩
        have HX : Hid (L.take (k + 1) = L.take k ++ [x]) := hid (by rw [List.take_add_one, List.getElem?_eq_getElem hkL, hx]; rfl)
        obtain rfl : q = .string (bs x) := by
          rw [List.getElem?_map, List.getElem?_eq_getElem hkL, hx] at hq
          exact (Option.some.inj hq).symm
        have HC := hid (HLN.out x (by rw [← hx]; exact List.getElem_mem hkL) wr w1.heap.size (HB6.out.trans (HO.out.below.mono HB6.out.size)) ((HO.out.below.block _ (Array.getElem?_eq_some_iff.1 HE6.out).1).trans HE6.out))
        obtain ⟨xb, hxb⟩ : ∃ xb, bs x = xb := ⟨_, rfl⟩
        rw [hxb] at HC hcq
        clear hq hx hxb
        go_wp2_with fail
        refine HC.out.mono ?_
        rintro e w2 ⟨rfl, hb2⟩
        have HO2 := hid (HO.out.later hb2)
        clear hb2
        go_wp2_with (at_builtin; refine wpList_append_lit W6 w2 _ rfl _ _ 24 rfl 9 (.string { data := #[] }) 1 16 1 Tryz.underlying24 infoS rfl (by decide) _ _ _ HO2.out rfl rfl rfl ?_ ?_ ?_ ?_)
        all_goals first | (intro v' w' ho hg) | omega | (simp [Value.oneCell']; done) | skip
        have HO3 := hid ho
        clear ho hg
        go_wp2
        go_roundw
        case rel => exact ⟨k + 1, by omega, by go_num, hid (by rw [HX.out, List.map_append, List.map_take]; exact HO3.out)⟩
        case measure => simp [intOf]; omega
      · obtain rfl : k = N := by omega
        have HEND : Hid (L.take k = L) := hid (List.take_of_length_le (by rw [HLM.out]; exact Nat.le_refl _))
        clear hlt
        go_wp2_with fail
        go_ret
        refine ⟨_, rfl, ?_, HB6.out.trans (HO.out.below.mono HB6.out.size)⟩
        have h := HO.out.sl
        rw [HEND.out] at h
        rw [HLM.out]
        exact h
end Go.Proofs.YtloeaihbnnnncaaGreatDoor.desks

/- coffeehousesame.Texts: two lists of texts. No condition. -/
namespace Go.Proofs.YtloeaihbnnnncaaGreatDoor.texts
open Go.RowKit Go.Proofs.YtloeaihbnnnncaaGreatDoor.lib

set_option maxHeartbeats 1000000 in
theorem texts_any (va vb : Value) (xs ys : List ByteArray) (w : World) (ha : Sl w va xs.length 1 (xs.map .string)) (hb : Sl w vb ys.length 1 (ys.map .string)) (hn : xs.length ≤ 1000000000000) :
    Calls Tryz.prog 15 #[va, vb] w fun e w' => e = .returned (.bool (decide (xs = ys))) ∧ Below w.heap.size w w' := by
  obtain ⟨a, c, rfl⟩ := ha.val
  obtain ⟨b, d, rfl⟩ := hb.val
  have HA := hid ha; have HB := hid hb; clear ha hb
  obtain ⟨E, hE⟩ : ∃ E, decide (xs = ys) = E := ⟨_, rfl⟩
  rw [hE]
  by_cases hlen : xs.length = ys.length
  · have HE := hid hE
    have hl0 : ((xs.length : Int) == (ys.length : Int)) = true := by simp [hlen]
    clear hE
    go_enter Tryz.func15, Tryz.ntmps15
    go_wp2_with fail
    go_loopw [5] (fun i wr => ∃ k : Nat, k ≤ xs.length ∧ i = .int .i64 k ∧ Hid (Below w.heap.size w wr) ∧ Hid (xs.take k = ys.take k)) (fun i _ => xs.length - (intOf i).toNat)
    case atStart => exact ⟨0, Nat.zero_le _, rfl, hid (Below.refl _ _), hid rfl⟩
    case round =>
      obtain ⟨k, hk, rfl, HR, HT⟩ := hrel
      by_cases hlt : k < xs.length
      · have hlt2 : k < ys.length := by omega
        obtain ⟨bx, ox, hax, hcx⟩ := sl_strs (HA.out.below HR.out) hlt
        obtain ⟨by_, oy, hay, hcy⟩ := sl_strs (HB.out.below HR.out) hlt2
        subst hax
        subst hay
        have hi : (0 : Int) ≤ (k : Int) := by omega
        have hl : (k : Int) < (xs.length : Int) := by omega
        have hl2 : (k : Int) < (ys.length : Int) := by omega
        by_cases heq : xs[k] = ys[k]
        · have HS := hid (take_same HT.out hlt hlt2 heq)
          rw [← heq] at hcy
          generalize xs[k] = X at hcx hcy
          clear heq hlt2
          go_wp2_with fail
          go_quiet (fail)
          go_wp2
          go_roundw
          case rel => exact ⟨k + 1, by omega, by go_num, hid (below_drewN HR.out _), HS⟩
          case measure => simp [intOf]; omega
        · have hne := str_neb heq
          have hne2 : ¬ xs[k].toList = ys[k].toList := by rw [beq_eq_false_iff_ne] at hne; exact hne
          have HF : Hid (E = false) := hid (by rw [← HE.out]; exact decide_eq_false (fun h => heq (by subst h; rfl)))
          generalize xs[k] = X at hcx hne hne2
          generalize ys[k] = Y at hcy hne hne2
          clear heq hlt2
          go_wp2_with fail
          go_quiet (fail)
          go_wp2
          go_ret
          rw [HF.out]
          exact ⟨rfl, below_drewN HR.out _⟩
      · have HTR : Hid (E = true) := hid (by
          rw [← HE.out]
          have h := HT.out
          rw [List.take_of_length_le (by omega), List.take_of_length_le (by omega)] at h
          exact decide_eq_true h)
        go_wp2_with fail
        go_ret
        rw [HTR.out]
        exact ⟨rfl, HR.out⟩
  · have HF : Hid (E = false) := hid (by rw [← hE]; exact decide_eq_false (fun h => hlen (by rw [h])))
    have hl0 : ((xs.length : Int) == (ys.length : Int)) = false := beq_eq_false_iff_ne.2 (by omega)
    clear hE
    go_enter Tryz.func15, Tryz.ntmps15
    go_wp2_with fail
    go_ret
    rw [HF.out]
    exact ⟨rfl, Below.refl _ _⟩

end Go.Proofs.YtloeaihbnnnncaaGreatDoor.texts

/- The lines math and is; the laws' own first look (desked). Conditions: numbers are of 64 bits; the variables that the library reads hold what they hold at the start. -/
set_option linter.unusedSimpArgs false
set_option linter.unusedVariables false
namespace Go.Proofs.YtloeaihbnnnncaaGreatDoor.desks
open Go.RowKit Go.Proofs.YtloeaihbnnnncaaGreatDoor.lib Go.Proofs.YtloeaihbnnnncaaGreatDoor.keep Go.Proofs.YtloeaihbnnnncaaGreatDoor.errs Go.Proofs.YtloeaihbnnnncaaGreatDoor.names Go.Proofs.YtloeaihbnnnncaaGreatDoor.descs Go.Proofs.YtloeaihbnnnncaaGreatDoor.ins Go.Proofs.YtloeaihbnnnncaaGreatDoor.nums Go.Proofs.YtloeaihbnnnncaaGreatDoor.flows Go.Proofs.YtloeaihbnnnncaaGreatDoor.txts Go.Proofs.YtloeaihbnnnncaaGreatDoor.maps Go.Proofs.YtloeaihbnnnncaaGreatDoor.worlds Go.Proofs.YtloeaihbnnnncaaGreatDoor.grow Go.Proofs.YtloeaihbnnnncaaGreatDoor.classes

theorem wrap32_in (a : Int) : InR (wrap32 a) := by unfold InR wrap32; omega
theorem whole_in {k a b : Int} (ha : InR a) (hb : InR b) : InR (wholeOf k a b).1 := by
  unfold wholeOf
  repeat' split
  all_goals dsimp only
  all_goals first | with_reducible exact in_wrap _ | with_reducible exact bits_in _ _ _ | with_reducible exact tmod_in ha hb (by assumption) | (unfold InR; omega)
theorem shift_in {k a : Int} {m : Nat} {long : Bool} (ha : InR a) : InR (shiftOf k a m long) := by
  unfold shiftOf
  repeat' split
  all_goals first | with_reducible exact in_wrap _ | with_reducible exact ediv_in ha m
theorem ofOf_in {t : List UInt8} {k a b : Int} (ha : InR a) (hb : InR b) : InR (ofOf t k a b).1 := by
  unfold ofOf
  simp only
  split
  · exact wrap32_in _
  · split
    · exact shift_in ha
    · exact whole_in ha hb
theorem math_in {t : List UInt8} {k a b : Int} (ha : InR a) (hb : InR b) : InR (mathF t k a b).2 := by
  unfold mathF
  repeat' split
  all_goals first | exact ofOf_in ha hb | (unfold InR; omega)
theorem TellBy.mono {A : Nat} {R R' : List UInt8 → World → Prop} {u w' : World} {e : Ending} (h : TellBy A R u e w') (hR : ∀ x v, R x v → R' x v) : TellBy A R' u e w' := by
  refine ⟨h.1, ?_⟩
  rcases h.2 with ⟨t, he, ht⟩ | ⟨z, he, hz⟩
  · exact .inl ⟨t, he, hR _ _ ht⟩
  · exact .inr ⟨z, he, hR _ _ hz⟩
theorem stab_still {w : World} (T : List UInt8) : Stab w.heap.size (fun x u => x = T ∧ Below w.heap.size w u) := fun t u v h hk => ⟨h.1, hk.below h.2 h.2.size (fun k hk => by rw [hk]; exact Nat.le_refl _)⟩
theorem head_words (l : List UInt8) : headW l = (wordsOf l).headD [] := by unfold headW; rw [cuts_words]
theorem math_len {t : List UInt8} {k a b : Int} (ht : isWd t = true) (hk : InR k) (ha : InR a) (hb : InR b) : (mathLine t k a b).length ≤ 100 := by
  have h1 := Lib.itoa_length_le k hk.1 hk.2
  have h2 := Lib.itoa_length_le a ha.1 ha.2
  have h3 := Lib.itoa_length_le b hb.1 hb.2
  have h4 : t.length = 1 := by
    unfold isWd at ht
    simp only [decide_eq_true_eq] at ht
    rcases ht with rfl | rfl <;> rfl
  unfold mathLine wMath
  simp
  omega
theorem look_math : getK formsL (bs wMath) = some (formV 5 138) := by kernel_rfl
theorem look_is : getK formsL (bs wIs) = some (formV 3 132) := by kernel_rfl
/-- the line of the command math -/
theorem line_math (vd : Value) (t : List UInt8) (k a b : Int) (w : World) (hv : Vars w) (ht : isWd t = true) (hk : InR k) (ha : InR a) (hb : InR b) :
    Calls Tryz.prog 40 #[vd, .string (bs (mathLine t k a b))] w fun e w' => e = .returned (.string (bs (mathT t k a b))) ∧ Below w.heap.size w w' := by
  have hlen := math_len ht hk ha hb
  have hw := math_words ht k a b
  rw [← cuts_words] at hw
  have h1 := Lib.itoa_length_le k hk.1 hk.2
  have h2 := Lib.itoa_length_le a ha.1 ha.2
  have h3 := Lib.itoa_length_le b hb.1 hb.2
  refine (line_tells vd (bs (mathLine t k a b)) w hv (by rw [bs_size]; omega) 5 138 (by omega) ?_ ?_ (fun args u => by simp [go_sem]) (fun x u => x = mathT t k a b ∧ Below w.heap.size w u) (stab_still _) ?_).mono ?_
  · show getK formsL (bs (headW (mathLine t k a b))) = _
    rw [head_words, math_words ht]
    exact look_math
  · show ((cutsOf 32 (mathLine t k a b)).length : Int) = 5
    rw [hw]; rfl
  · intro u vs hu hlt hsl
    rw [show (bs (mathLine t k a b)).data.toList = mathLine t k a b from rfl, hw] at hsl
    refine (math_tell vd vs t (Lib.itoa k) (Lib.itoa a) (Lib.itoa b) k a b u w.heap.size hlt (hv.below hu) (numW_itoa hk) (numW_itoa ha) (numW_itoa hb) (by omega) (by omega) (by omega) hsl (math_in ha hb)).mono ?_
    intro e u' h
    exact h.mono fun x v hx => ⟨hx.1, hu.trans (hx.2.mono hu.size)⟩
  · rintro e w' ⟨x, rfl, rfl, hb⟩
    exact ⟨rfl, hb⟩
def isLine : List UInt8 := [105, 115, 32, 70, 97, 117, 108, 116, 32, 79, 98, 106, 101, 99, 116]
theorem is_line_words : cutsOf 32 isLine = [wIs, [70, 97, 117, 108, 116], [79, 98, 106, 101, 99, 116]] := by decide +kernel
theorem is_fault : isF [] (bs [70, 97, 117, 108, 116]) (bs [79, 98, 106, 101, 99, 116]) = (0, true) := by decide +kernel
theorem line_is (p : Nat) (w : World) (hv : Vars w) (hp : Empty p w) :
    Calls Tryz.prog 40 #[.pointer (some ⟨p, 0, none⟩), .string (bs isLine)] w fun e w' => e = .returned (.string (bs wYes)) ∧ Below w.heap.size w w' := by
  refine (line_tells _ (bs isLine) w hv (by rw [bs_size]; decide) 3 132 (by omega) ?_ ?_ (fun args u => by simp [go_sem]) (fun x u => x = wYes ∧ Below w.heap.size w u) (stab_still _) ?_).mono ?_
  · show getK formsL (bs (headW isLine)) = _
    unfold headW
    rw [is_line_words]
    exact look_is
  · show ((cutsOf 32 isLine).length : Int) = 3
    rw [is_line_words]; rfl
  · intro u vs hu hlt hsl
    rw [show (bs isLine).data.toList = isLine from rfl, is_line_words] at hsl
    have hpu : u.heap[p]? = some (.cells #[.slice none 0 0, .slice none 0 0] 101 (0, 0)) := (hu.block _ (Array.getElem?_eq_some_iff.1 hp).1).trans hp
    refine (is_tell p _ _ vs [] [70, 97, 117, 108, 116] [79, 98, 106, 101, 99, 116] true u w.heap.size hlt hpu ⟨slN _ 6, fun c hc => (List.not_mem_nil hc).elim⟩ (hv.below hu).forms (fun c hc => (List.not_mem_nil hc).elim) (by simp) hsl is_fault).mono ?_
    intro e u' h
    exact h.mono fun x v hx => ⟨hx.1, hu.trans (hx.2.mono hu.size)⟩
  · rintro e w' ⟨x, rfl, rfl, hb⟩
    exact ⟨rfl, hb⟩
end Go.Proofs.YtloeaihbnnnncaaGreatDoor.desks

/- The laws' own first look (desked); the walk of DeskMath. Conditions: numbers are of 64 bits; the variables that the library reads hold what they hold at the start. -/
set_option linter.unusedSimpArgs false
set_option linter.unusedVariables false
namespace Go.Proofs.YtloeaihbnnnncaaGreatDoor.desks
open Go.Proofs.YtloeaihbnnnncaaGreatDoor.texts Go.RowKit Go.Proofs.YtloeaihbnnnncaaGreatDoor.lib Go.Proofs.YtloeaihbnnnncaaGreatDoor.keep Go.Proofs.YtloeaihbnnnncaaGreatDoor.errs Go.Proofs.YtloeaihbnnnncaaGreatDoor.names Go.Proofs.YtloeaihbnnnncaaGreatDoor.descs Go.Proofs.YtloeaihbnnnncaaGreatDoor.ins Go.Proofs.YtloeaihbnnnncaaGreatDoor.nums Go.Proofs.YtloeaihbnnnncaaGreatDoor.flows Go.Proofs.YtloeaihbnnnncaaGreatDoor.txts Go.Proofs.YtloeaihbnnnncaaGreatDoor.maps Go.Proofs.YtloeaihbnnnncaaGreatDoor.worlds Go.Proofs.YtloeaihbnnnncaaGreatDoor.grow Go.Proofs.YtloeaihbnnnncaaGreatDoor.classes

def deskS : List UInt8 := [109, 97, 116, 104, 32, 73, 32, 49, 32, 50, 32, 51, 10, 105, 115, 32, 70, 97, 117, 108, 116, 32, 79, 98, 106, 101, 99, 116, 10]
theorem desk_lines : linesOf deskS = [mathLine [73] 1 2 3, isLine] := by decide +kernel
theorem desk_first : mathT [73] 1 2 3 = [53] := by decide +kernel
theorem run_desk (w : World) (hv : Vars w) : Calls Tryz.prog 14 #[.string (bs deskS)] w fun e w' => ∃ v, e = .returned v ∧ Sl w' v 2 1 ([bs [53], bs [121, 101, 115]].map .string) ∧ Below w.heap.size w w' := by
  have h := run_loop (bs deskS) (fun x => if x = isLine then wYes else [53]) w hv (by rw [bs_size]; decide) (by show (linesOf deskS).length ≤ 100; rw [desk_lines]; decide) ?_
  · rw [show (bs deskS).data.toList = deskS from rfl, desk_lines] at h
    exact h
  · intro x hx u p hu hp
    rw [show (bs deskS).data.toList = deskS from rfl, desk_lines] at hx
    rcases List.mem_cons.1 hx with rfl | hx
    · rw [if_neg (by decide +kernel), ← desk_first]
      exact line_math _ [73] 1 2 3 u (hv.below hu) rfl (by unfold InR; omega) (by unfold InR; omega) (by unfold InR; omega)
    · obtain rfl := List.mem_singleton.1 hx
      rw [if_pos rfl]
      exact line_is p u (hv.below hu) hp
set_option maxRecDepth 100000 in
set_option maxHeartbeats 4000000 in
theorem desked_any (w : World) (hv : Vars w) : Calls Tryz.prog 13 #[] w fun e w' => e = .returned (.bool true) ∧ Below w.heap.size w w' := by
  have HR := hid (run_desk w hv)
  have HE := hid (show (bs deskS) = { data := #[109, 97, 116, 104, 32, 73, 32, 49, 32, 50, 32, 51, 10, 105, 115, 32, 70, 97, 117, 108, 116, 32, 79, 98, 106, 101, 99, 116, 10] } from rfl)
  rw [HE.out] at HR
  clear hv
  go_enter Tryz.func13, Tryz.ntmps13
  go_wp2_with fail
  refine HR.out.mono ?_
  rintro e w1 ⟨v1, rfl, hs1, hb1⟩
  obtain ⟨a1, c1, rfl⟩ := hs1.val
  have HS1 := hid hs1
  have HB1 := hid hb1
  clear hs1 hb1
  go_wp2_with fail
  have hlit := Sl.lit w1 #[.string (bs [53]), .string (bs [121, 101, 115])] 9 2 1 rfl
  refine (texts_any _ _ [bs [53], bs [121, 101, 115]] [bs [53], bs [121, 101, 115]] _ (HS1.out.below (ext_alloc w1 _)) hlit (by decide)).mono ?_
  rintro e w2 ⟨rfl, hb2⟩
  have HB2 := hid (HB1.out.trans ((Below.trans (ext_alloc w1 _) (hb2.mono (by simp))).mono HB1.out.size))
  clear hb2 hlit
  go_wp2_with fail
  go_ret
  exact ⟨by simp, HB2.out⟩
end Go.Proofs.YtloeaihbnnnncaaGreatDoor.desks

/- The walk of DeskMath. Conditions: numbers are of 64 bits; the variables that the library reads hold what they hold at the start. -/
set_option linter.unusedSimpArgs false
set_option linter.unusedVariables false
namespace Go.Proofs.YtloeaihbnnnncaaGreatDoor.desks
open Go.RowKit Go.Proofs.YtloeaihbnnnncaaGreatDoor.lib Go.Proofs.YtloeaihbnnnncaaGreatDoor.keep Go.Proofs.YtloeaihbnnnncaaGreatDoor.errs Go.Proofs.YtloeaihbnnnncaaGreatDoor.names Go.Proofs.YtloeaihbnnnncaaGreatDoor.descs Go.Proofs.YtloeaihbnnnncaaGreatDoor.ins Go.Proofs.YtloeaihbnnnncaaGreatDoor.nums Go.Proofs.YtloeaihbnnnncaaGreatDoor.flows Go.Proofs.YtloeaihbnnnncaaGreatDoor.txts Go.Proofs.YtloeaihbnnnncaaGreatDoor.maps Go.Proofs.YtloeaihbnnnncaaGreatDoor.worlds Go.Proofs.YtloeaihbnnnncaaGreatDoor.grow Go.Proofs.YtloeaihbnnnncaaGreatDoor.classes

theorem bs_app (x y : List UInt8) : bs (x ++ y) = bs x ++ bs y := by
  apply ByteArray.ext
  simp [bs, ByteArray.data_append]
theorem math_one {t : List UInt8} (ht : isWd t = true) (k a b : Int) : linesOf (mathLine t k a b) = [mathLine t k a b] := by
  unfold linesOf
  rw [cuts_none (math_nl ht k a b), if_neg]
  intro h
  have := Option.some.inj h
  unfold mathLine wMath at this
  cases this
theorem run_math (t : List UInt8) (k a b : Int) (w : World) (hv : Vars w) (ht : isWd t = true) (hk : InR k) (ha : InR a) (hb : InR b) :
    Calls Tryz.prog 14 #[.string (bs (mathLine t k a b))] w fun e w' => ∃ v, e = .returned v ∧ Sl w' v 1 1 [.string (bs (mathT t k a b))] ∧ Below w.heap.size w w' := by
  have hlen := math_len ht hk ha hb
  have hone := math_one ht k a b
  have h := run_loop (bs (mathLine t k a b)) (fun x => mathT t k a b) w hv (by rw [bs_size]; omega) (by show (linesOf (mathLine t k a b)).length ≤ 100; rw [hone]; simp) ?_
  · rw [show (bs (mathLine t k a b)).data.toList = mathLine t k a b from rfl, hone] at h
    exact h
  · intro x hx u p hu hp
    rw [show (bs (mathLine t k a b)).data.toList = mathLine t k a b from rfl, hone] at hx
    obtain rfl := List.mem_singleton.1 hx
    exact line_math _ t k a b u (hv.below hu) ht hk ha hb
set_option maxRecDepth 100000 in
set_option maxHeartbeats 8000000 in
theorem deskMath_any (long : Bool) (k a b : Int) (w : World) (hv : Vars w) (hk : InR k) (ha : InR a) (hb : InR b) :
    Calls Tryz.prog 6 #[.bool long, .int .i64 k, .int .i64 a, .int .i64 b] w fun e w' => e = .returned (.bool true) ∧ Below w.heap.size w w' := by
  have HD := hid (desked_any w hv)
  have HK := hid (fun u => digits_any k u hk)
  have HA := hid (fun u => digits_any a u ha)
  have HB := hid (fun u => digits_any b u hb)
  obtain ⟨t, ht⟩ : ∃ t : List UInt8, t = if long = true then [74] else [73] := ⟨_, rfl⟩
  have hwd : isWd t = true := by rw [ht]; cases long <;> rfl
  have HR := hid (fun u (hu : Below w.heap.size w u) => run_math t k a b u (hv.below hu) hwd hk ha hb)
  have HM := hid (fun u => math_any t k a b u)
  have HN := hid (fun u => digits_any (mathF t k a b).2 u (math_in ha hb))
  have HT : Hid (mathT t k a b = if (mathF t k a b).1 = 0 then Lib.itoa (mathF t k a b).2 else errName (mathF t k a b).1) := hid rfl
  have HML : Hid (bs (mathLine t k a b) = { data := #[109, 97, 116, 104, 32] } ++ bs t ++ { data := #[32] } ++ bs (Lib.itoa k) ++ { data := #[32] } ++ bs (Lib.itoa a) ++ { data := #[32] } ++ bs (Lib.itoa b)) := hid (by
    show bs (mathLine t k a b) = bs [109, 97, 116, 104, 32] ++ bs t ++ bs [32] ++ bs (Lib.itoa k) ++ bs [32] ++ bs (Lib.itoa a) ++ bs [32] ++ bs (Lib.itoa b)
    simp only [← bs_app]
    congr 1
    unfold mathLine wMath
    simp)
  obtain ⟨z, n, hz⟩ : ∃ z n, mathF t k a b = (z, n) := ⟨_, _, rfl⟩
  rw [hz] at HM HN HT
  simp only at HM HN HT
  obtain ⟨T, hT⟩ : ∃ T, mathT t k a b = T := ⟨_, rfl⟩
  rw [hT] at HR HT
  obtain ⟨ik, hik⟩ : ∃ x, bs (Lib.itoa k) = x := ⟨_, rfl⟩
  obtain ⟨ia, hia⟩ : ∃ x, bs (Lib.itoa a) = x := ⟨_, rfl⟩
  obtain ⟨ib, hib⟩ : ∃ x, bs (Lib.itoa b) = x := ⟨_, rfl⟩
  obtain ⟨ml, hml⟩ : ∃ x, bs (mathLine t k a b) = x := ⟨_, rfl⟩
  rw [hik] at HK
  rw [hia] at HA
  rw [hib] at HB
  rw [hml] at HR
  rw [hik, hia, hib, hml] at HML
  have hsk : ik.size ≤ 30 := by rw [← hik, bs_size]; have := Lib.itoa_length_le k hk.1 hk.2; omega
  have hsa : ia.size ≤ 30 := by rw [← hia, bs_size]; have := Lib.itoa_length_le a ha.1 ha.2; omega
  have hsb : ib.size ≤ 30 := by rw [← hib, bs_size]; have := Lib.itoa_length_le b hb.1 hb.2; omega
  clear hv hk ha hb hwd hz hT hik hia hib hml
  cases long with
  | true =>
    obtain rfl : t = [74] := by rw [ht]; rfl
    clear ht
    rw [show bs [74] = { data := #[74] } from rfl] at HM HML
    go_enter Tryz.func6, Tryz.ntmps6
    go_wp2_with fail
    refine HD.out.mono ?_
    rintro e w1 ⟨rfl, hb1⟩
    have HB1 := hid hb1
    clear hb1
    go_wp2_with fail
    refine (HK.out _).mono ?_
    rintro e w2 ⟨rfl, rfl⟩
    go_wp2_with fail
    refine (HA.out _).mono ?_
    rintro e w2 ⟨rfl, rfl⟩
    go_wp2_with fail
    refine (HB.out _).mono ?_
    rintro e w2 ⟨rfl, rfl⟩
    go_wp2_with fail
    rw [← HML.out]
    refine (HR.out _ HB1.out).mono ?_
    rintro e w3 ⟨v3, rfl, hs3, hb3⟩
    have HB3 := hid (HB1.out.trans (hb3.mono HB1.out.size))
    obtain ⟨a3, c3, rfl⟩ := hs3.val
    have HS3 := hid hs3
    clear hs3 hb3
    go_wp2_with fail
    refine (HM.out _).mono ?_
    rintro e w4 ⟨rfl, hb4⟩
    have HB4 := hid (HB3.out.trans (hb4.mono HB3.out.size))
    have HS4 := hid (HS3.out.below hb4)
    clear hb4
    go_wp2_with fail
    refine (HN.out _).mono ?_
    rintro e w5 ⟨rfl, rfl⟩
    by_cases hz : z = 0
    · have HTZ : Hid (T = Lib.itoa n) := hid (by rw [HT.out, if_pos hz])
      rw [show errVal z = .nilIface from by unfold errVal; rw [if_pos hz]]
      clear hz
      obtain ⟨g, o, hab, q, hq, hcq⟩ := HS4.out.at1 (k := 0) (by decide)
      subst hab
      obtain rfl := (Option.some.inj hq).symm
      rw [Nat.add_zero] at hcq
      rw [← HTZ.out]
      obtain ⟨tb, htb⟩ : ∃ x, bs T = x := ⟨_, rfl⟩
      rw [htb] at hcq ⊢
      clear htb hq
      go_wp2_with fail
      go_ret
      exact ⟨by simp, HB4.out⟩
    · have HTZ : Hid (T = errName z) := hid (by rw [HT.out, if_neg hz])
      rw [show errVal z = .iface 58 (.int .i64 z) from by unfold errVal; rw [if_neg hz]]
      clear hz
      go_wp2_with fail
      refine (error_any z _).mono ?_
      rintro e w6 ⟨rfl, hb6⟩
      have HB6 := hid (HB4.out.trans (hb6.mono HB4.out.size))
      have HS6 := hid (HS4.out.below hb6)
      obtain ⟨g, o, hab, q, hq, hcq⟩ := HS6.out.at1 (k := 0) (by decide)
      subst hab
      obtain rfl := (Option.some.inj hq).symm
      rw [Nat.add_zero] at hcq
      rw [← HTZ.out]
      obtain ⟨tb, htb⟩ : ∃ x, bs T = x := ⟨_, rfl⟩
      rw [htb] at hcq ⊢
      clear htb hq hb6
      go_wp2_with fail
      go_ret
      exact ⟨by simp, HB6.out⟩
  | false =>
    obtain rfl : t = [73] := by rw [ht]; rfl
    clear ht
    rw [show bs [73] = { data := #[73] } from rfl] at HM HML
    go_enter Tryz.func6, Tryz.ntmps6
    go_wp2_with fail
    refine HD.out.mono ?_
    rintro e w1 ⟨rfl, hb1⟩
    have HB1 := hid hb1
    clear hb1
    go_wp2_with fail
    refine (HK.out _).mono ?_
    rintro e w2 ⟨rfl, rfl⟩
    go_wp2_with fail
    refine (HA.out _).mono ?_
    rintro e w2 ⟨rfl, rfl⟩
    go_wp2_with fail
    refine (HB.out _).mono ?_
    rintro e w2 ⟨rfl, rfl⟩
    go_wp2_with fail
    rw [← HML.out]
    refine (HR.out _ HB1.out).mono ?_
    rintro e w3 ⟨v3, rfl, hs3, hb3⟩
    have HB3 := hid (HB1.out.trans (hb3.mono HB1.out.size))
    obtain ⟨a3, c3, rfl⟩ := hs3.val
    have HS3 := hid hs3
    clear hs3 hb3
    go_wp2_with fail
    refine (HM.out _).mono ?_
    rintro e w4 ⟨rfl, hb4⟩
    have HB4 := hid (HB3.out.trans (hb4.mono HB3.out.size))
    have HS4 := hid (HS3.out.below hb4)
    clear hb4
    go_wp2_with fail
    refine (HN.out _).mono ?_
    rintro e w5 ⟨rfl, rfl⟩
    by_cases hz : z = 0
    · have HTZ : Hid (T = Lib.itoa n) := hid (by rw [HT.out, if_pos hz])
      rw [show errVal z = .nilIface from by unfold errVal; rw [if_pos hz]]
      clear hz
      obtain ⟨g, o, hab, q, hq, hcq⟩ := HS4.out.at1 (k := 0) (by decide)
      subst hab
      obtain rfl := (Option.some.inj hq).symm
      rw [Nat.add_zero] at hcq
      rw [← HTZ.out]
      obtain ⟨tb, htb⟩ : ∃ x, bs T = x := ⟨_, rfl⟩
      rw [htb] at hcq ⊢
      clear htb hq
      go_wp2_with fail
      go_ret
      exact ⟨by simp, HB4.out⟩
    · have HTZ : Hid (T = errName z) := hid (by rw [HT.out, if_neg hz])
      rw [show errVal z = .iface 58 (.int .i64 z) from by unfold errVal; rw [if_neg hz]]
      clear hz
      go_wp2_with fail
      refine (error_any z _).mono ?_
      rintro e w6 ⟨rfl, hb6⟩
      have HB6 := hid (HB4.out.trans (hb6.mono HB4.out.size))
      have HS6 := hid (HS4.out.below hb6)
      obtain ⟨g, o, hab, q, hq, hcq⟩ := HS6.out.at1 (k := 0) (by decide)
      subst hab
      obtain rfl := (Option.some.inj hq).symm
      rw [Nat.add_zero] at hcq
      rw [← HTZ.out]
      obtain ⟨tb, htb⟩ : ∃ x, bs T = x := ⟨_, rfl⟩
      rw [htb] at hcq ⊢
      clear htb hq hb6
      go_wp2_with fail
      go_ret
      exact ⟨by simp, HB6.out⟩
end Go.Proofs.YtloeaihbnnnncaaGreatDoor.desks
