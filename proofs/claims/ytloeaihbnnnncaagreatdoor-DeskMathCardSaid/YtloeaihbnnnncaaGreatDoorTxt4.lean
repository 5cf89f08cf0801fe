/- Instructions as bytes: code.Encode. Conditions: the two tables lie in their variables; the instructions' texts are not long; their numbers are of 64 bits. -/
import Derived.Test.YtloeaihbnnnncaaGreatDoorOwn
import Derived.Lib.AppendStr
import Derived.Test.YtloeaihbnnnncaaGreatDoorFlowP
import Derived.Test.YtloeaihbnnnncaaGreatDoorIns6
import Derived.Test.YtloeaihbnnnncaaGreatDoorShelf
import Derived.Test.YtloeaihbnnnncaaGreatDoorNum1
import Derived.WalkSmall
import Derived.Lib.ItoaLen
import Derived.Deep.LoopGhost
set_option linter.unusedSimpArgs false
set_option linter.unusedVariables false
namespace Go.Proofs.YtloeaihbnnnncaaGreatDoor.txts
open Go.RowKit Go.Proofs.YtloeaihbnnnncaaGreatDoor.lib Go.Proofs.YtloeaihbnnnncaaGreatDoor.errs Go.Proofs.YtloeaihbnnnncaaGreatDoor.names Go.Proofs.YtloeaihbnnnncaaGreatDoor.descs Go.Proofs.YtloeaihbnnnncaaGreatDoor.ins Go.Proofs.YtloeaihbnnnncaaGreatDoor.nums

/-- the powers of ten lie in their variable -/
def Pow (w : World) : Prop := Lib.TabIs Tryz.prog w "internal/strconv.uint64pow10" .u64 Lib.pow10Tab
theorem Pow.below {w w' : World} (h : Pow w) (hb : Below w.heap.size w w') : Pow w' := by
  unfold Pow Lib.TabIs World.var? at *
  cases hg : Tryz.prog.globalNamed "internal/strconv.uint64pow10" with
  | none => rw [hg] at h; cases h
  | some g =>
    rw [hg] at h
    simp only [Option.bind_some] at h ⊢
    cases hw : w.heap[g]? with
    | none => rw [hw] at h; cases h
    | some o => rw [hb.block g (Array.getElem?_eq_some_iff.1 hw).1, hw]; rw [hw] at h; exact h

theorem below_grow {B : Nat} {a w : World} (h : Below B a w) (hB : B ≤ a.heap.size) (os : Array Obj) : Below B a (Sort.grow w os) :=
  h.trans ⟨rfl, rfl, rfl, by simp [Sort.grow], fun k hk => by
    show (w.heap ++ os)[k]? = w.heap[k]?
    exact Array.getElem?_append_left (Nat.lt_of_lt_of_le hk (Nat.le_trans hB h.size))⟩
theorem itoa_any (n : Int) (w : World) (h : InR n) (hp : Pow w) : Calls Tryz.prog 140 #[.int .i64 n] w fun e w' => e = .returned (.string (bs (Lib.itoa n))) ∧ Below w.heap.size w w' := by
  refine (Tryz.strconv_Itoa n h.1 h.2 w hp).mono ?_
  rintro e w' ⟨rfl, k, os, rfl⟩
  exact ⟨rfl, below_grow (below_drewN (Below.refl _ _) k) (Nat.le_refl _) os⟩

/-- a part, by its letter -/
def partL (x : I) (ch : UInt8) : List UInt8 := if ch = 65 then Lib.itoa x.a else if ch = 66 then Lib.itoa x.b else if ch = 84 then x.t.data.toList else if ch = 67 then x.c.data.toList else x.n.data.toList
def Letter (ch : UInt8) : Prop := ch = 65 ∨ ch = 66 ∨ ch = 84 ∨ ch = 67 ∨ ch = 78

set_option maxHeartbeats 1000000 in
theorem part_any (op a b : Int) (t c n : ByteArray) (ch : UInt8) (w : World) (hch : Letter ch) (ha : InR a) (hb : InR b) (hp : Pow w) :
    Calls Tryz.prog 193 #[.agg #[.int .i64 op, .int .i64 a, .int .i64 b, .string t, .string c, .string n], .int .i32 ch.toNat] w fun e w' => e = .returned (.string (bs (partL ⟨op, a, b, t, c, n⟩ ch))) ∧ Below w.heap.size w w' := by
  have HB := hid (ext_alloc w (.cells #[.int .i64 op, .int .i64 a, .int .i64 b, .string t, .string c, .string n] 61))
  have HP := hid (hp.below HB.out)
  rcases hch with rfl | rfl | rfl | rfl | rfl
  · have HI := hid (itoa_any a _ ha HP.out)
    show Calls _ _ #[_, .int .i32 65] _ _
    clear hp
    go_enter Tryz.func193, Tryz.ntmps193
    go_wp2_with fail
    refine HI.out.mono ?_
    rintro e w1 ⟨rfl, hb1⟩
    have HB1 := hid (HB.out.trans (hb1.mono HB.out.size))
    clear hb1
    go_wp2
    go_ret
    exact ⟨rfl, HB1.out⟩
  · have HI := hid (itoa_any b _ hb HP.out)
    show Calls _ _ #[_, .int .i32 66] _ _
    clear hp
    go_enter Tryz.func193, Tryz.ntmps193
    go_wp2_with fail
    refine HI.out.mono ?_
    rintro e w1 ⟨rfl, hb1⟩
    have HB1 := hid (HB.out.trans (hb1.mono HB.out.size))
    clear hb1
    go_wp2
    go_ret
    exact ⟨rfl, HB1.out⟩
  · show Calls _ _ #[_, .int .i32 84] _ _
    clear hp
    go_enter Tryz.func193, Tryz.ntmps193
    go_wp2
    go_ret
    exact ⟨rfl, HB.out⟩
  · show Calls _ _ #[_, .int .i32 67] _ _
    clear hp
    go_enter Tryz.func193, Tryz.ntmps193
    go_wp2
    go_ret
    exact ⟨rfl, HB.out⟩
  · show Calls _ _ #[_, .int .i32 78] _ _
    clear hp
    go_enter Tryz.func193, Tryz.ntmps193
    go_wp2
    go_ret
    exact ⟨rfl, HB.out⟩

/-- the text of an instruction: the kind's word, and what it needs -/
def tailL (x : I) (nd : List UInt8) : List UInt8 := nd.flatMap fun ch => 32 :: partL x ch
def textL (x : I) : List UInt8 := match formTab[x.op.toNat]? with | none => [] | some (wd, nd) => wd ++ tailL x nd
theorem letters_all : (formTab.all fun p => p.2.all (fun ch => ch == 65 || ch == 66 || ch == 84 || ch == 67 || ch == 78) && decide (p.2.length ≤ 3) && decide (p.1.length ≤ 20)) = true := by decide +kernel
theorem letters_ok {k : Nat} {wd nd : List UInt8} (h : formTab[k]? = some (wd, nd)) : (∀ ch ∈ nd, Letter ch) ∧ nd.length ≤ 3 ∧ wd.length ≤ 20 := by
  have h1 := List.all_eq_true.1 letters_all _ (List.mem_of_getElem? h)
  simp only [Bool.and_eq_true, decide_eq_true_eq] at h1
  refine ⟨fun ch hc => ?_, h1.1.2, h1.2⟩
  have := List.all_eq_true.1 h1.1.1 ch hc
  simp at this
  unfold Letter
  rcases this with (((h | h) | h) | h) | h <;> simp [h]
theorem tail_next (x : I) (nd : List UInt8) {j : Nat} (hj : j < nd.length) : tailL x (nd.take (j + 1)) = tailL x (nd.take j) ++ 32 :: partL x nd[j] := by
  unfold tailL
  rw [List.take_succ_eq_append_getElem hj, List.flatMap_append]
  simp
end Go.Proofs.YtloeaihbnnnncaaGreatDoor.txts

set_option linter.unusedSimpArgs false
set_option linter.unusedVariables false
namespace Go.Proofs.YtloeaihbnnnncaaGreatDoor.txts
open Go.RowKit Go.Proofs.YtloeaihbnnnncaaGreatDoor.lib Go.Proofs.YtloeaihbnnnncaaGreatDoor.errs Go.Proofs.YtloeaihbnnnncaaGreatDoor.names Go.Proofs.YtloeaihbnnnncaaGreatDoor.descs Go.Proofs.YtloeaihbnnnncaaGreatDoor.ins Go.Proofs.YtloeaihbnnnncaaGreatDoor.nums

theorem Box.iterAt {w : World} {B k : Nat} {x : I} (h : Box w B x) (hk : B ≠ k) (s : ByteArray) (p : Nat) : Box (w.iterAt k s p) B x := by
  have e : ∀ j, (w.iterAt k s p).cell? ⟨B, j, none⟩ = w.cell? ⟨B, j, none⟩ := fun j => World.cell?_of_block (a := ⟨B, j, none⟩) (Lib.iterAt_other w k B s p hk)
  obtain ⟨h0, h1, h2, h3, h4, h5⟩ := h
  exact ⟨(e 0).trans h0, (e 1).trans h1, (e 2).trans h2, (e 3).trans h3, (e 4).trans h4, (e 5).trans h5⟩
theorem bs_get (l : List UInt8) (j : Nat) (h : j < (bs l).size) (h2 : j < l.length) : ((bs l)[j]'h).toNat = (l[j]'h2).toNat := rfl
theorem next_at {w : World} {R j : Nat} {l : List UInt8} (hI : w.heap[R]? = some (.stringIter (bs l) j)) (h : j < l.length) (hc : Letter (l[j]'h)) (ty : TypeId) :
    (Instr.next (.pointer (some ⟨R, 0, none⟩)) true ty).run Tryz.prog w = .ok (.tuple #[.bool true, .int .i64 j, .int .i32 (l[j]'h).toNat]) (w.iterAt R (bs l) (j + 1)) := by
  have h1 : j < (bs l).size := h
  have e := bs_get l j h1 h
  have := Lib.run_next_ascii_at (P := Tryz.prog) w R (bs l) j ty hI h1 (by rw [e]; rcases hc with h | h | h | h | h <;> rw [h] <;> decide)
  rw [e] at this
  exact this

set_option maxRecDepth 100000 in
set_option maxHeartbeats 4000000 in
theorem text_good (k : Nat) (a b : Int) (t c n : ByteArray) (w : World) (hf : FormsAt w) (hp : Pow w) (ht : t.size ≤ 10000000) (hc : c.size ≤ 9223372036854775807) (hn : n.size ≤ 9223372036854775807) (ha : InR a) (hb : InR b)
    (wd nd : List UInt8) (hk : formTab[k]? = some (wd, nd)) (h1 : 1 ≤ k) (h2 : k ≤ 28) (h0 : insFault ⟨(k : Int), a, b, t, c, n⟩ = 0) (hbr : ∀ ch ∈ nd, (partL ⟨(k : Int), a, b, t, c, n⟩ ch).length ≤ 10000000) :
    Calls Tryz.prog 147 #[.agg #[.int .i64 (k : Int), .int .i64 a, .int .i64 b, .string t, .string c, .string n]] w fun e w' => e = .returned (.tuple #[.string (bs (wd ++ tailL ⟨(k : Int), a, b, t, c, n⟩ nd)), .nilIface]) ∧ Below w.heap.size w w' := by
  obtain ⟨hlet, hl3, hw20⟩ := letters_ok hk
  have HLET := hid hlet
  obtain ⟨X1, hX1⟩ : ∃ X1, w.alloc (.cells #[.int .i64 (k : Int), .int .i64 a, .int .i64 b, .string t, .string c, .string n] 61) = X1 := ⟨_, rfl⟩
  have HB1 : Hid (Below w.heap.size w X1) := hid (hX1 ▸ ext_alloc _ _)
  have HX : Hid (Box X1 w.heap.size ⟨(k : Int), a, b, t, c, n⟩) := hid (hX1 ▸ Box.new w ⟨(k : Int), a, b, t, c, n⟩ _)
  obtain ⟨x0, x1, x2, x3, x4, x5⟩ := HX.out
  simp only at x0 x1 x2 x3 x4 x5
  have HC := hid (icheck_any (k : Int) a b t c n X1 (hf.below HB1.out) ht hc hn)
  rw [h0, Go.Proofs.YtloeaihbnnnncaaGreatDoor.flows.errVal_zero rfl] at HC
  have HF := hid hf; have HP := hid hp; have HA := hid ha; have HBB := hid hb; have HBR := hid hbr; have HK := hid hk
  have k1 : ¬ (k : Int) < 1 := by omega
  have k3 : (k : Int) < 29 := by omega
  have k4 : (0 : Int) ≤ (k : Int) := by omega
  clear hf hp ht hc hn ha hb h0 hbr hk hlet h1 h2
  go_enter Tryz.func147, Tryz.ntmps147
  go_wp2_with fail
  refine HC.out.mono ?_
  rintro e w2 ⟨rfl, hb2⟩
  have HB2 := hid (HB1.out.trans (hb2.mono HB1.out.size))
  have HX2 := hid (HX.out.below hb2)
  obtain ⟨c0, c1⟩ := (HF.out.below HB2.out) k _ HK.out
  obtain ⟨y0, _⟩ := HX2.out
  simp only at y0
  clear hb2 x0 x1 x2 x3 x4 x5 hX1
  obtain ⟨X3, hX3⟩ : ∃ X3, w2.alloc (.cells #[.string (bs wd), .string (bs nd)] 187) = X3 := ⟨_, rfl⟩
  have HE3 : Hid (Below w2.heap.size w2 X3) := hid (hX3 ▸ ext_alloc _ _)
  have HB3 := hid (HB2.out.trans (HE3.out.mono HB2.out.size))
  have HX3 := hid (HX2.out.below HE3.out)
  have z0 : X3.cell? ⟨w2.heap.size, 0, none⟩ = some (.string (bs wd)) := by rw [← hX3]; rw [World.cell?_alloc_at _ _ _ _ rfl]; rfl
  have z1 : X3.cell? ⟨w2.heap.size, 1, none⟩ = some (.string (bs nd)) := by rw [← hX3]; rw [World.cell?_alloc_at _ _ _ _ rfl]; rfl
  have HRW : Hid ((X3.iter (bs nd) 0).heap[X3.heap.size]? = some (.stringIter (bs nd) 0)) := hid (World.iter_heap _ _ _)
  have HB4 : Hid (Below w.heap.size w (X3.iter (bs nd) 0)) := hid (HB3.out.alloc HB3.out.size _)
  have HX4 : Hid (Box (X3.iter (bs nd) 0) w.heap.size ⟨(k : Int), a, b, t, c, n⟩) := hid (HX3.out.below (ext_alloc _ _))
  have HLT : Hid (w.heap.size < X3.heap.size) := hid (World.block_lt_of_cell? _ _ HX3.out.1)
  have HND : Hid ((bs nd).size = nd.length) := hid rfl
  have HWD : Hid ((bs wd).data.toList = wd) := hid rfl
  have hws : (bs wd).size ≤ 20 := hw20
  go_wp2_with fail
  go_loopg [6] nd.length (fun g v wr => ∃ (j : Nat) (J : ByteArray), j ≤ nd.length ∧ g = nd.length - j ∧ v = .string J ∧ Hid (J.data.toList = wd ++ tailL ⟨(k : Int), a, b, t, c, n⟩ (nd.take j) ∧ J.size ≤ 20 + j * 10000001) ∧ Hid (wr.heap[X3.heap.size]? = some (.stringIter (bs nd) j)) ∧ Hid (Below w.heap.size w wr) ∧ Hid (Box wr w.heap.size ⟨(k : Int), a, b, t, c, n⟩))
  case atStart => exact ⟨0, bs wd, Nat.zero_le _, rfl, rfl, hid ⟨by rw [HWD.out]; simp [tailL], by omega⟩, HRW, HB4, HX4⟩
  case round =>
    obtain ⟨j, J, hj, hgk, rfl, HJ, HIT, HBR2, HBX⟩ := hrel
    have HGK := hid hgk
    clear hgk
    by_cases hlt : j < nd.length
    · have hjs : j < (bs nd).size := hlt
      have HCH := hid (HLET.out _ (List.getElem_mem hlt))
      have HPL := hid (HBR.out _ (List.getElem_mem hlt))
      have HTN := hid (tail_next ⟨(k : Int), a, b, t, c, n⟩ nd hlt)
      have hnx := fun ty => next_at HIT.out hlt HCH.out ty
      obtain ⟨Y, hY⟩ : ∃ Y, wr.iterAt X3.heap.size (bs nd) (j + 1) = Y := ⟨_, rfl⟩
      have HYB : Hid (Below w.heap.size w Y) := hid (hY ▸ Lib.below_iterAt HBR2.out (Nat.le_of_lt HLT.out) _ _)
      have HYX : Hid (Box Y w.heap.size ⟨(k : Int), a, b, t, c, n⟩) := hid (hY ▸ Box.iterAt HBX.out (Nat.ne_of_lt HLT.out) _ _)
      have HYI : Hid (Y.heap[X3.heap.size]? = some (.stringIter (bs nd) (j + 1))) := hid (hY ▸ Lib.iterAt_heap _ _ _ _ _ HIT.out)
      rw [hY] at hnx
      obtain ⟨b0, b1, b2, b3, b4, b5⟩ := HYX.out
      simp only at b0 b1 b2 b3 b4 b5
      generalize nd[j] = ch at hnx HCH HPL HTN
      have HPT := hid (part_any (k : Int) a b t c n ch Y HCH.out HA.out HBB.out (HP.out.below HYB.out))
      obtain ⟨S, hS⟩ : ∃ S, bs (partL ⟨(k : Int), a, b, t, c, n⟩ ch) = S := ⟨_, rfl⟩
      have hS1 : S.size ≤ 10000000 := by rw [← hS]; exact HPL.out
      have HSS := hid hS
      rw [hS] at HPT
      have hJ1 : J.size ≤ 40000000 := by have := HJ.out.2; have : j ≤ 3 := by omega
                                         omega
      clear hS hY hjs
      go_wp2_with fail
      refine HPT.out.mono ?_
      rintro e w5 ⟨rfl, hb5⟩
      have HB5 := hid (HYB.out.trans (hb5.mono HYB.out.size))
      have HX5 := hid (HYX.out.below hb5)
      have HI5 := hid ((hb5.block _ (Array.getElem?_eq_some_iff.1 HYI.out).1).trans HYI.out)
      clear hb5
      go_wp2_with fail
      go_roundg (nd.length - (j + 1))
      case measure => have := HGK.out; omega
      case rel => exact ⟨j + 1, _, by omega, rfl, rfl, hid ⟨by
        rw [HTN.out, ← HSS.out, ByteArray.data_append, Array.toList_append, ByteArray.data_append, Array.toList_append, HJ.out.1, List.append_assoc]; rfl, by
        have := HJ.out.2
        rw [ByteArray.size_append, ByteArray.size_append]
        show J.size + (1 + S.size) ≤ _
        omega⟩, HI5, HB5, HX5⟩
    · have hjs : ¬ j < (bs nd).size := hlt
      have hnx := fun ty => Lib.run_next_end_at (P := Tryz.prog) wr X3.heap.size (bs nd) j ty HIT.out hjs
      have HFIN : Hid (J = bs (wd ++ tailL ⟨(k : Int), a, b, t, c, n⟩ nd)) := hid (bs_of (by rw [HJ.out.1, List.take_of_length_le (by omega)]))
      clear hjs
      go_wp2
      go_ret2
      rw [← HFIN.out]
      exact ⟨rfl, HBR2.out⟩

set_option maxRecDepth 100000 in
set_option maxHeartbeats 2000000 in
theorem text_bad (op a b : Int) (t c n : ByteArray) (w : World) (hf : FormsAt w) (ht : t.size ≤ 10000000) (hc : c.size ≤ 9223372036854775807) (hn : n.size ≤ 9223372036854775807) (h0 : ¬ insFault ⟨op, a, b, t, c, n⟩ = 0) :
    Calls Tryz.prog 147 #[.agg #[.int .i64 op, .int .i64 a, .int .i64 b, .string t, .string c, .string n]] w fun e w' => e = .returned (.tuple #[.string { data := #[] }, .iface 58 (.int .i64 (insFault ⟨op, a, b, t, c, n⟩))]) ∧ Below w.heap.size w w' := by
  obtain ⟨X1, hX1⟩ : ∃ X1, w.alloc (.cells #[.int .i64 op, .int .i64 a, .int .i64 b, .string t, .string c, .string n] 61) = X1 := ⟨_, rfl⟩
  have HB1 : Hid (Below w.heap.size w X1) := hid (hX1 ▸ ext_alloc _ _)
  have HX : Hid (Box X1 w.heap.size ⟨op, a, b, t, c, n⟩) := hid (hX1 ▸ Box.new w ⟨op, a, b, t, c, n⟩ _)
  obtain ⟨x0, x1, x2, x3, x4, x5⟩ := HX.out
  simp only at x0 x1 x2 x3 x4 x5
  have HC := hid (icheck_any op a b t c n X1 (hf.below HB1.out) ht hc hn)
  have HE : Hid (errVal (insFault ⟨op, a, b, t, c, n⟩) = .iface 58 (.int .i64 (insFault ⟨op, a, b, t, c, n⟩))) := hid (Go.Proofs.YtloeaihbnnnncaaGreatDoor.flows.errVal_ne h0)
  rw [HE.out] at HC
  clear hf ht hc hn h0
  generalize insFault ⟨op, a, b, t, c, n⟩ = z at HC HE
  go_enter Tryz.func147, Tryz.ntmps147
  go_wp2_with fail
  refine HC.out.mono ?_
  rintro e w2 ⟨rfl, hb2⟩
  have HB2 := hid (HB1.out.trans (hb2.mono HB1.out.size))
  clear hb2
  go_wp2
  go_ret2
  exact ⟨rfl, HB2.out⟩
end Go.Proofs.YtloeaihbnnnncaaGreatDoor.txts

namespace Go.Proofs.YtloeaihbnnnncaaGreatDoor.txts
open Go.RowKit Go.Proofs.YtloeaihbnnnncaaGreatDoor.lib Go.Proofs.YtloeaihbnnnncaaGreatDoor.errs Go.Proofs.YtloeaihbnnnncaaGreatDoor.names Go.Proofs.YtloeaihbnnnncaaGreatDoor.descs Go.Proofs.YtloeaihbnnnncaaGreatDoor.ins Go.Proofs.YtloeaihbnnnncaaGreatDoor.nums

def patsL : List (List UInt8) := [[], [65], [84], [67], [65, 84], [65, 66], [67, 78], [84, 67, 78]]
theorem pat_all : ((List.range 29).all fun k => k == 0 || match formTab[k]? with
    | none => true
    | some (_, nd) => (needA k == nd.contains 65) && (needB k == nd.contains 66) && (needT k == nd.contains 84) && (needC k == nd.contains 67) && (needN k == nd.contains 78) && patsL.contains nd) = true := by decide +kernel
theorem pat_of {k : Nat} {wd nd : List UInt8} (hk : formTab[k]? = some (wd, nd)) (h1 : 1 ≤ k) (h2 : k ≤ 28) : needA k = nd.contains 65 ∧ needB k = nd.contains 66 ∧ needT k = nd.contains 84 ∧ needC k = nd.contains 67 ∧ needN k = nd.contains 78 ∧ nd ∈ patsL := by
  have h := List.all_eq_true.1 pat_all k (List.mem_range.2 (by omega))
  rw [hk] at h
  simp only [Bool.or_eq_true, beq_iff_eq, Bool.and_eq_true] at h
  rcases h with h | h
  · omega
  · obtain ⟨⟨⟨⟨⟨a, b⟩, c⟩, d⟩, e⟩, f⟩ := h
    exact ⟨a, b, c, d, e, by simpa using f⟩

end Go.Proofs.YtloeaihbnnnncaaGreatDoor.txts

set_option linter.unusedSimpArgs false
set_option linter.unusedVariables false
namespace Go.Proofs.YtloeaihbnnnncaaGreatDoor.txts
open Go.RowKit Go.Proofs.YtloeaihbnnnncaaGreatDoor.lib Go.Proofs.YtloeaihbnnnncaaGreatDoor.errs Go.Proofs.YtloeaihbnnnncaaGreatDoor.names Go.Proofs.YtloeaihbnnnncaaGreatDoor.descs Go.Proofs.YtloeaihbnnnncaaGreatDoor.ins Go.Proofs.YtloeaihbnnnncaaGreatDoor.nums Go.Proofs.YtloeaihbnnnncaaGreatDoor.flows

theorem infoB : (Tryz.prog.info? 5).map (fun i => (i.zero, i.size, i.bytes)) = some (some (.int .u8 0), 1, 1) := by kernel_rfl
/-- 'append(out, s...)' of a text -/
theorem wpList_append_text (w0 W : World) {ops : Array Oper} {rest : List Oper} {o : Oper} {a : Act} {Q : Exit → Act → World → Prop} (hgd : o.guard = none) (sl x : Operand)
    (ho : o.op = .call { callee := .builtin .append, args := #[sl, x], argTypes := #[251, 9] })
    (v : Value) (n : Nat) (xs : List Value) (hout : Out w0 W 5 1 v n xs) (hs : a.eval sl = v) (s : ByteArray) (hx : a.eval x = .string s) (h64 : n + s.size ≤ 140737488355328)
    (h : ∀ v' w', Out w0 w' 5 1 v' (n + s.size) (xs ++ Lib.strCells s) → wpList Tryz.prog ops Q rest (a.put o.dst v') w') : wpList Tryz.prog ops Q (o :: rest) a W := by
  obtain ⟨i, hi, hz, hsize, hby⟩ := info_parts infoB
  refine Lib.wpList_append_own_string W hgd sl x 251 9 ho w0.heap.size 5 i Tryz.underlying251 Tryz.underlying9 hi hz hsize hby v n xs hs hout.own s hx (by unfold maxLen; omega) h64 hout.below.size ?_
  intro v' w' ho2 hg _
  exact h v' w' ⟨ho2, hout.below.grown hg hout.below.size (fun k hk => (hout.own.lt k hk).1)⟩

/-- what right instructions hold is not long -/
theorem brief_of {x : I} (h : insFault x = 0) : 1 ≤ x.op ∧ x.op ≤ 28 ∧ x.c.size ≤ 20 ∧ x.n.size ≤ 20 := by
  unfold insFault at h
  split at h
  · cases h
  rename_i h1
  split at h
  · cases h
  rename_i h2
  split at h
  · cases h
  split at h
  · cases h
  rename_i h4
  have hb : bareOk x = true := by simpa using h2
  unfold bareOk at hb
  simp only [Bool.and_eq_true, Bool.or_eq_true, beq_iff_eq] at hb
  refine ⟨by omega, by omega, ?_, ?_⟩
  · rcases hb.1.2 with hc | hc
    · have : nameOk x.c.data.toList = true := by
        cases hn : nameOk x.c.data.toList with
        | true => rfl
        | false => exact absurd (.inr (.inl ⟨hc, hn⟩)) h4
      unfold nameOk at this
      simp only [Bool.and_eq_true, decide_eq_true_eq] at this
      rw [← size_len]; exact this.1.1.2
    · rw [← size_len, hc]; simp
  · rcases hb.2 with hc | hc
    · have : nameOk x.n.data.toList = true := by
        cases hn : nameOk x.n.data.toList with
        | true => rfl
        | false => exact absurd (.inr (.inr ⟨hc, hn⟩)) h4
      unfold nameOk at this
      simp only [Bool.and_eq_true, decide_eq_true_eq] at this
      rw [← size_len]; exact this.1.1.2
    · rw [← size_len, hc]; simp
theorem part_brief {x : I} (h : insFault x = 0) (hs : Small x) (ha : InR x.a) (hb : InR x.b) (ch : UInt8) : (partL x ch).length ≤ 10000000 := by
  obtain ⟨_, _, h3, h4⟩ := brief_of h
  unfold partL
  have h1 := Lib.itoa_length_le x.a ha.1 ha.2
  have h2 := Lib.itoa_length_le x.b hb.1 hb.2
  have h5 := hs.1
  repeat' split
  all_goals first | omega | (rw [size_len]; omega)
/-- the text of a right instruction: the kind's word, its parts -/
theorem form_of {x : I} (h : insFault x = 0) : ∃ (k : Nat) (wd nd : List UInt8), x.op = (k : Int) ∧ 1 ≤ k ∧ k ≤ 28 ∧ formTab[k]? = some (wd, nd) ∧ textL x = wd ++ tailL x nd := by
  obtain ⟨h1, h2, _⟩ := brief_of h
  obtain ⟨k, hk⟩ : ∃ k : Nat, x.op = (k : Int) := ⟨x.op.toNat, by omega⟩
  have hk29 : k < formTab.length := by show k < 29; omega
  obtain ⟨⟨wd, nd⟩, hp⟩ : ∃ p, formTab[k]? = some p := ⟨_, List.getElem?_eq_getElem hk29⟩
  refine ⟨k, wd, nd, hk, by omega, by omega, hp, ?_⟩
  unfold textL
  rw [hk, Int.toNat_natCast, hp]
theorem flat_len (x : I) : ∀ nd : List UInt8, (∀ ch ∈ nd, (partL x ch).length ≤ 10000000) → (tailL x nd).length ≤ nd.length * 10000001
  | [], _ => by simp [tailL]
  | ch :: nd, h => by
    have h1 := flat_len x nd (fun c hc => h c (List.mem_cons_of_mem _ hc))
    have h2 := h ch (List.mem_cons_self ..)
    show (32 :: partL x ch ++ tailL x nd).length ≤ _
    rw [List.length_append, List.length_cons, List.length_cons]
    omega
theorem text_len {x : I} (h : insFault x = 0) (hs : Small x) (ha : InR x.a) (hb : InR x.b) : (textL x).length ≤ 40000000 := by
  obtain ⟨k, wd, nd, _, _, _, hp, e⟩ := form_of h
  obtain ⟨_, h3, h20⟩ := letters_ok hp
  have := flat_len x nd (fun ch _ => part_brief h hs ha hb ch)
  rw [e, List.length_append]
  omega
theorem text_any (op a b : Int) (t c n : ByteArray) (w : World) (hf : FormsAt w) (hp : Pow w) (hs : Small ⟨op, a, b, t, c, n⟩) (ha : InR a) (hb : InR b) (h0 : insFault ⟨op, a, b, t, c, n⟩ = 0) :
    Calls Tryz.prog 147 #[.agg #[.int .i64 op, .int .i64 a, .int .i64 b, .string t, .string c, .string n]] w fun e w' => e = .returned (.tuple #[.string (bs (textL ⟨op, a, b, t, c, n⟩)), .nilIface]) ∧ Below w.heap.size w w' := by
  obtain ⟨k, wd, nd, hk, h1, h2, hp2, e⟩ := form_of h0
  simp only at hk
  subst hk
  rw [e]
  exact text_good k a b t c n w hf hp hs.1 hs.2.1 hs.2.2 ha hb wd nd hp2 h1 h2 h0 (fun ch _ => part_brief h0 hs ha hb ch)
/-- the bytes of an instruction; of code -/
def encI (x : I) : List Int := ((textL x).length : Int) % 256 :: (textL x).map fun b => (b.toNat : Int)
def encTo (l : List I) (k : Nat) : List Int := (l.length : Int) % 256 :: (l.take k).flatMap encI
def codeErr (l : List I) : Int := if 40 < l.length then 4 else badIns l
theorem enc_next {l : List I} {k : Nat} (hk : k < l.length) : encTo l (k + 1) = (encTo l k ++ [((textL l[k]).length : Int) % 256]) ++ (textL l[k]).map fun b => (b.toNat : Int) := by
  unfold encTo
  rw [List.take_succ_eq_append_getElem hk, List.flatMap_append]
  simp [encI]
/-- what is written of each: before the first that is wrong -/
def Written (l : List I) (k : Nat) : Prop := ∀ j (h : j < l.length), j < k → insFault l[j] = 0
theorem enc_len_to {l : List I} (h : ∀ x ∈ l, Small x ∧ InR x.a ∧ InR x.b) (M : Nat) (hM : 40000001 ≤ M) : ∀ k, Written l k → (encTo l k).length ≤ 1 + k * M := by
  intro k
  induction k with
  | zero =>
    intro _
    unfold encTo
    rw [List.take_zero, List.flatMap_nil, List.length_singleton]
    exact Nat.le_add_right _ _
  | succ k ih =>
    intro hw
    have ih := ih (fun j hj hjk => hw j hj (Nat.lt_succ_of_lt hjk))
    rw [Nat.succ_mul]
    by_cases hk : k < l.length
    · obtain ⟨h2, h3, h4⟩ := h _ (List.getElem_mem hk)
      have := text_len (hw k hk (Nat.lt_succ_self k)) h2 h3 h4
      rw [enc_next hk, List.length_append, List.length_append, List.length_map, List.length_singleton]
      omega
    · have : encTo l (k + 1) = encTo l k := by
        unfold encTo; rw [List.take_of_length_le (by omega), List.take_of_length_le (by omega)]
      rw [this]; omega

/-- what code.Encode answers -/
def EncBy (w : World) (l : List I) (e : Ending) (w' : World) : Prop :=
  if codeErr l = 0 then ∃ v, e = .returned (.tuple #[v, .nilIface]) ∧ Out w w' 5 1 v (encTo l l.length).length ((encTo l l.length).map (.int .u8))
  else e = .returned (.tuple #[.slice none 0 0, .iface 58 (.int .i64 (codeErr l))]) ∧ Below w.heap.size w w'

end Go.Proofs.YtloeaihbnnnncaaGreatDoor.txts
