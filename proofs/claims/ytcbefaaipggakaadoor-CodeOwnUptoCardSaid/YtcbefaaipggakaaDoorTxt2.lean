/- Instructions as text: ins.Text. Conditions: the two tables lie in their variables; the instruction's text is not long; its numbers are of 64 bits. -/
import Derived.Test.YtcbefaaipggakaaDoorTxt1
import Derived.Test.YtcbefaaipggakaaDoorFlowP
import Derived.Test.YtcbefaaipggakaaDoorIns6
set_option linter.unusedSimpArgs false
set_option linter.unusedVariables false
namespace Go.Proofs.YtcbefaaipggakaaDoor.txts
open Go.RowKit Go.Proofs.YtcbefaaipggakaaDoor.lib Go.Proofs.YtcbefaaipggakaaDoor.errs Go.Proofs.YtcbefaaipggakaaDoor.names Go.Proofs.YtcbefaaipggakaaDoor.descs Go.Proofs.YtcbefaaipggakaaDoor.ins Go.Proofs.YtcbefaaipggakaaDoor.nums

theorem Box.iterAt {w : World} {B k : Nat} {x : I} (h : Box w B x) (hk : B ≠ k) (s : ByteArray) (p : Nat) : Box (w.iterAt k s p) B x := by
  have e : ∀ j, (w.iterAt k s p).cell? ⟨B, j, none⟩ = w.cell? ⟨B, j, none⟩ := fun j => World.cell?_of_block (a := ⟨B, j, none⟩) (Lib.iterAt_other w k B s p hk)
  obtain ⟨h0, h1, h2, h3, h4, h5⟩ := h
  exact ⟨(e 0).trans h0, (e 1).trans h1, (e 2).trans h2, (e 3).trans h3, (e 4).trans h4, (e 5).trans h5⟩
theorem bs_get (l : List UInt8) (j : Nat) (h : j < (bs l).size) (h2 : j < l.length) : ((bs l)[j]'h).toNat = (l[j]'h2).toNat := rfl
theorem next_at {w : World} {R j : Nat} {l : List UInt8} (hI : w.heap[R]? = some (.stringIter (bs l) j)) (h : j < l.length) (hc : Letter (l[j]'h)) (ty : TypeId) :
    (Instr.next (.pointer (some ⟨R, 0, none⟩)) true ty).run Tryd.prog w = .ok (.tuple #[.bool true, .int .i64 j, .int .i32 (l[j]'h).toNat]) (w.iterAt R (bs l) (j + 1)) := by
  have h1 : j < (bs l).size := h
  have e := bs_get l j h1 h
  have := Lib.run_next_ascii_at (P := Tryd.prog) w R (bs l) j ty hI h1 (by rw [e]; rcases hc with h | h | h | h | h <;> rw [h] <;> decide)
  rw [e] at this
  exact this

set_option maxRecDepth 100000 in
set_option maxHeartbeats 4000000 in
theorem text_good (k : Nat) (a b : Int) (t c n : ByteArray) (w : World) (hf : FormsAt w) (hp : Pow w) (ht : t.size ≤ 10000000) (hc : c.size ≤ 9223372036854775807) (hn : n.size ≤ 9223372036854775807) (ha : InR a) (hb : InR b)
    (wd nd : List UInt8) (hk : formTab[k]? = some (wd, nd)) (h1 : 1 ≤ k) (h2 : k ≤ 28) (h0 : insFault ⟨(k : Int), a, b, t, c, n⟩ = 0) (hbr : ∀ ch ∈ nd, (partL ⟨(k : Int), a, b, t, c, n⟩ ch).length ≤ 10000000) :
    Calls Tryd.prog 11 #[.agg #[.int .i64 (k : Int), .int .i64 a, .int .i64 b, .string t, .string c, .string n]] w fun e w' => e = .returned (.tuple #[.string (bs (wd ++ tailL ⟨(k : Int), a, b, t, c, n⟩ nd)), .nilIface]) ∧ Below w.heap.size w w' := by
  obtain ⟨hlet, hl3, hw20⟩ := letters_ok hk
  have HLET := hid hlet
  obtain ⟨X1, hX1⟩ : ∃ X1, w.alloc (.cells #[.int .i64 (k : Int), .int .i64 a, .int .i64 b, .string t, .string c, .string n] 36) = X1 := ⟨_, rfl⟩
  have HB1 : Hid (Below w.heap.size w X1) := hid (hX1 ▸ ext_alloc _ _)
  have HX : Hid (Box X1 w.heap.size ⟨(k : Int), a, b, t, c, n⟩) := hid (hX1 ▸ Box.new w ⟨(k : Int), a, b, t, c, n⟩ _)
  obtain ⟨x0, x1, x2, x3, x4, x5⟩ := HX.out
  simp only at x0 x1 x2 x3 x4 x5
  have HC := hid (icheck_any (k : Int) a b t c n X1 (hf.below HB1.out) ht hc hn)
  rw [h0, Go.Proofs.YtcbefaaipggakaaDoor.flows.errVal_zero rfl] at HC
  have HF := hid hf; have HP := hid hp; have HA := hid ha; have HBB := hid hb; have HBR := hid hbr; have HK := hid hk
  have k1 : ¬ (k : Int) < 1 := by omega
  have k3 : (k : Int) < 29 := by omega
  have k4 : (0 : Int) ≤ (k : Int) := by omega
  clear hf hp ht hc hn ha hb h0 hbr hk hlet h1 h2
  go_enter Tryd.func11, Tryd.ntmps11
  go_wp2_with fail
  refine HC.out.mono ?_
  rintro e w2 ⟨rfl, hb2⟩
  have HB2 := hid (HB1.out.trans (hb2.mono HB1.out.size))
  have HX2 := hid (HX.out.below hb2)
  obtain ⟨c0, c1⟩ := (HF.out.below HB2.out) k _ HK.out
  obtain ⟨y0, _⟩ := HX2.out
  simp only at y0
  clear hb2 x0 x1 x2 x3 x4 x5 hX1
  obtain ⟨X3, hX3⟩ : ∃ X3, w2.alloc (.cells #[.string (bs wd), .string (bs nd)] 44) = X3 := ⟨_, rfl⟩
  have HE3 : Hid (Below w2.heap.size w2 X3) := hid (hX3 ▸ ext_alloc _ _)
  have HB3 := hid (HB2.out.trans (HE3.out.mono HB2.out.size))
  have HX3 := hid (HX2.out.below HE3.out)
  have z0 : X3.cell? ⟨w2.heap.size, 0, none⟩ = some (.string (bs wd)) := by rw [← hX3]; rw [World.cell?_alloc_at _ _ _ _ rfl]; rfl
  have z1 : X3.cell? ⟨w2.heap.size, 1, none⟩ = some (.string (bs nd)) := by rw [← hX3]; rw [World.cell?_alloc_at _ _ _ _ rfl]; rfl
  have HRW : Hid ((X3.iter (bs nd) 0).heap[X3.heap.size]? = some (.stringIter (bs nd) 0)) := hid (World.iter_heap _ _ _)
  have HB4 : Hid (Below w.heap.size w (X3.iter (bs nd) 0)) := hid (HB3.out.alloc HB3.out.size _)
  have HX4 : Hid (Box (X3.iter (bs nd) 0) w.heap.size ⟨(k : Int), a, b, t, c, n⟩) := hid (HX3.out.below (ext_alloc _ _))
  have HLT : Hid (w.heap.size < X3.heap.size) := hid (World.block_lt_of_cell? _ _ HX3.out.1)
  have HND : Hid ((bs nd).size = nd.length) := hid rfl
  have HWD : Hid ((bs wd).data.toList = wd) := hid rfl
  have hws : (bs wd).size ≤ 20 := hw20
  go_wp2_with fail
  go_loopg [6] nd.length (fun g v wr => ∃ (j : Nat) (J : ByteArray), j ≤ nd.length ∧ g = nd.length - j ∧ v = .string J ∧ Hid (J.data.toList = wd ++ tailL ⟨(k : Int), a, b, t, c, n⟩ (nd.take j) ∧ J.size ≤ 20 + j * 10000001) ∧ Hid (wr.heap[X3.heap.size]? = some (.stringIter (bs nd) j)) ∧ Hid (Below w.heap.size w wr) ∧ Hid (Box wr w.heap.size ⟨(k : Int), a, b, t, c, n⟩))
  case atStart => exact ⟨0, bs wd, Nat.zero_le _, rfl, rfl, hid ⟨by rw [HWD.out]; simp [tailL], by omega⟩, HRW, HB4, HX4⟩
  case round =>
    obtain ⟨j, J, hj, hgk, rfl, HJ, HIT, HBR2, HBX⟩ := hrel
    have HGK := hid hgk
    clear hgk
    by_cases hlt : j < nd.length
    · have hjs : j < (bs nd).size := hlt
      have HCH := hid (HLET.out _ (List.getElem_mem hlt))
      have HPL := hid (HBR.out _ (List.getElem_mem hlt))
      have HTN := hid (tail_next ⟨(k : Int), a, b, t, c, n⟩ nd hlt)
      have hnx := fun ty => next_at HIT.out hlt HCH.out ty
      obtain ⟨Y, hY⟩ : ∃ Y, wr.iterAt X3.heap.size (bs nd) (j + 1) = Y := ⟨_, rfl⟩
      have HYB : Hid (Below w.heap.size w Y) := hid (hY ▸ Lib.below_iterAt HBR2.out (Nat.le_of_lt HLT.out) _ _)
      have HYX : Hid (Box Y w.heap.size ⟨(k : Int), a, b, t, c, n⟩) := hid (hY ▸ Box.iterAt HBX.out (Nat.ne_of_lt HLT.out) _ _)
      have HYI : Hid (Y.heap[X3.heap.size]? = some (.stringIter (bs nd) (j + 1))) := hid (hY ▸ Lib.iterAt_heap _ _ _ _ _ HIT.out)
      rw [hY] at hnx
      obtain ⟨b0, b1, b2, b3, b4, b5⟩ := HYX.out
      simp only at b0 b1 b2 b3 b4 b5
      generalize nd[j] = ch at hnx HCH HPL HTN
      have HPT := hid (part_any (k : Int) a b t c n ch Y HCH.out HA.out HBB.out (HP.out.below HYB.out))
      obtain ⟨S, hS⟩ : ∃ S, bs (partL ⟨(k : Int), a, b, t, c, n⟩ ch) = S := ⟨_, rfl⟩
      have hS1 : S.size ≤ 10000000 := by rw [← hS]; exact HPL.out
      have HSS := hid hS
      rw [hS] at HPT
      have hJ1 : J.size ≤ 40000000 := by have := HJ.out.2; have : j ≤ 3 := by omega
                                         omega
      clear hS hY hjs
      go_wp2_with fail
      refine HPT.out.mono ?_
      rintro e w5 ⟨rfl, hb5⟩
      have HB5 := hid (HYB.out.trans (hb5.mono HYB.out.size))
      have HX5 := hid (HYX.out.below hb5)
      have HI5 := hid ((hb5.block _ (Array.getElem?_eq_some_iff.1 HYI.out).1).trans HYI.out)
      clear hb5
      go_wp2_with fail
      go_roundg (nd.length - (j + 1))
      case measure => have := HGK.out; omega
      case rel => exact ⟨j + 1, _, by omega, rfl, rfl, hid ⟨by
        rw [HTN.out, ← HSS.out, ByteArray.data_append, Array.toList_append, ByteArray.data_append, Array.toList_append, HJ.out.1, List.append_assoc]; rfl, by
        have := HJ.out.2
        rw [ByteArray.size_append, ByteArray.size_append]
        show J.size + (1 + S.size) ≤ _
        omega⟩, HI5, HB5, HX5⟩
    · have hjs : ¬ j < (bs nd).size := hlt
      have hnx := fun ty => Lib.run_next_end_at (P := Tryd.prog) wr X3.heap.size (bs nd) j ty HIT.out hjs
      have HFIN : Hid (J = bs (wd ++ tailL ⟨(k : Int), a, b, t, c, n⟩ nd)) := hid (bs_of (by rw [HJ.out.1, List.take_of_length_le (by omega)]))
      clear hjs
      go_wp2
      go_ret2
      rw [← HFIN.out]
      exact ⟨rfl, HBR2.out⟩

set_option maxRecDepth 100000 in
set_option maxHeartbeats 2000000 in
theorem text_bad (op a b : Int) (t c n : ByteArray) (w : World) (hf : FormsAt w) (ht : t.size ≤ 10000000) (hc : c.size ≤ 9223372036854775807) (hn : n.size ≤ 9223372036854775807) (h0 : ¬ insFault ⟨op, a, b, t, c, n⟩ = 0) :
    Calls Tryd.prog 11 #[.agg #[.int .i64 op, .int .i64 a, .int .i64 b, .string t, .string c, .string n]] w fun e w' => e = .returned (.tuple #[.string { data := #[] }, .iface 32 (.int .i64 (insFault ⟨op, a, b, t, c, n⟩))]) ∧ Below w.heap.size w w' := by
  obtain ⟨X1, hX1⟩ : ∃ X1, w.alloc (.cells #[.int .i64 op, .int .i64 a, .int .i64 b, .string t, .string c, .string n] 36) = X1 := ⟨_, rfl⟩
  have HB1 : Hid (Below w.heap.size w X1) := hid (hX1 ▸ ext_alloc _ _)
  have HX : Hid (Box X1 w.heap.size ⟨op, a, b, t, c, n⟩) := hid (hX1 ▸ Box.new w ⟨op, a, b, t, c, n⟩ _)
  obtain ⟨x0, x1, x2, x3, x4, x5⟩ := HX.out
  simp only at x0 x1 x2 x3 x4 x5
  have HC := hid (icheck_any op a b t c n X1 (hf.below HB1.out) ht hc hn)
  have HE : Hid (errVal (insFault ⟨op, a, b, t, c, n⟩) = .iface 32 (.int .i64 (insFault ⟨op, a, b, t, c, n⟩))) := hid (Go.Proofs.YtcbefaaipggakaaDoor.flows.errVal_ne h0)
  rw [HE.out] at HC
  clear hf ht hc hn h0
  generalize insFault ⟨op, a, b, t, c, n⟩ = z at HC HE
  go_enter Tryd.func11, Tryd.ntmps11
  go_wp2_with fail
  refine HC.out.mono ?_
  rintro e w2 ⟨rfl, hb2⟩
  have HB2 := hid (HB1.out.trans (hb2.mono HB1.out.size))
  clear hb2
  go_wp2
  go_ret2
  exact ⟨rfl, HB2.out⟩
end Go.Proofs.YtcbefaaipggakaaDoor.txts
