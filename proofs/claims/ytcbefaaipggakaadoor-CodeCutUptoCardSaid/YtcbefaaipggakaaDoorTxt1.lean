/- Instructions as text: strconv.Itoa as the shelf has it; ins.part; ins.Text. Conditions: the two tables lie in their variables; the instruction's text is not long; its numbers are of 64 bits. -/
import Derived.Test.YtcbefaaipggakaaDoorShelf
import Derived.Test.YtcbefaaipggakaaDoorIns6
import Derived.Test.YtcbefaaipggakaaDoorNum1
import Derived.WalkSmall
import Derived.Lib.ItoaLen
import Derived.Deep.LoopGhost
set_option linter.unusedSimpArgs false
set_option linter.unusedVariables false
namespace Go.Proofs.YtcbefaaipggakaaDoor.txts
open Go.RowKit Go.Proofs.YtcbefaaipggakaaDoor.lib Go.Proofs.YtcbefaaipggakaaDoor.errs Go.Proofs.YtcbefaaipggakaaDoor.names Go.Proofs.YtcbefaaipggakaaDoor.descs Go.Proofs.YtcbefaaipggakaaDoor.ins Go.Proofs.YtcbefaaipggakaaDoor.nums

/-- the powers of ten lie in their variable -/
def Pow (w : World) : Prop := Lib.TabIs Tryd.prog w "internal/strconv.uint64pow10" .u64 Lib.pow10Tab
theorem Pow.below {w w' : World} (h : Pow w) (hb : Below w.heap.size w w') : Pow w' := by
  unfold Pow Lib.TabIs World.var? at *
  cases hg : Tryd.prog.globalNamed "internal/strconv.uint64pow10" with
  | none => rw [hg] at h; cases h
  | some g =>
    rw [hg] at h
    simp only [Option.bind_some] at h ⊢
    cases hw : w.heap[g]? with
    | none => rw [hw] at h; cases h
    | some o => rw [hb.block g (Array.getElem?_eq_some_iff.1 hw).1, hw]; rw [hw] at h; exact h

theorem below_grow {B : Nat} {a w : World} (h : Below B a w) (hB : B ≤ a.heap.size) (os : Array Obj) : Below B a (Sort.grow w os) :=
  h.trans ⟨rfl, rfl, rfl, by simp [Sort.grow], fun k hk => by
    show (w.heap ++ os)[k]? = w.heap[k]?
    exact Array.getElem?_append_left (Nat.lt_of_lt_of_le hk (Nat.le_trans hB h.size))⟩
theorem itoa_any (n : Int) (w : World) (h : InR n) (hp : Pow w) : Calls Tryd.prog 24 #[.int .i64 n] w fun e w' => e = .returned (.string (bs (Lib.itoa n))) ∧ Below w.heap.size w w' := by
  refine (Tryd.strconv_Itoa n h.1 h.2 w hp).mono ?_
  rintro e w' ⟨rfl, k, os, rfl⟩
  exact ⟨rfl, below_grow (below_drewN (Below.refl _ _) k) (Nat.le_refl _) os⟩

/-- a part, by its letter -/
def partL (x : I) (ch : UInt8) : List UInt8 := if ch = 65 then Lib.itoa x.a else if ch = 66 then Lib.itoa x.b else if ch = 84 then x.t.data.toList else if ch = 67 then x.c.data.toList else x.n.data.toList
def Letter (ch : UInt8) : Prop := ch = 65 ∨ ch = 66 ∨ ch = 84 ∨ ch = 67 ∨ ch = 78

set_option maxHeartbeats 1000000 in
theorem part_any (op a b : Int) (t c n : ByteArray) (ch : UInt8) (w : World) (hch : Letter ch) (ha : InR a) (hb : InR b) (hp : Pow w) :
    Calls Tryd.prog 15 #[.agg #[.int .i64 op, .int .i64 a, .int .i64 b, .string t, .string c, .string n], .int .i32 ch.toNat] w fun e w' => e = .returned (.string (bs (partL ⟨op, a, b, t, c, n⟩ ch))) ∧ Below w.heap.size w w' := by
  have HB := hid (ext_alloc w (.cells #[.int .i64 op, .int .i64 a, .int .i64 b, .string t, .string c, .string n] 36))
  have HP := hid (hp.below HB.out)
  rcases hch with rfl | rfl | rfl | rfl | rfl
  · have HI := hid (itoa_any a _ ha HP.out)
    show Calls _ _ #[_, .int .i32 65] _ _
    clear hp
    go_enter Tryd.func15, Tryd.ntmps15
    go_wp2_with fail
    refine HI.out.mono ?_
    rintro e w1 ⟨rfl, hb1⟩
    have HB1 := hid (HB.out.trans (hb1.mono HB.out.size))
    clear hb1
    go_wp2
    go_ret
    exact ⟨rfl, HB1.out⟩
  · have HI := hid (itoa_any b _ hb HP.out)
    show Calls _ _ #[_, .int .i32 66] _ _
    clear hp
    go_enter Tryd.func15, Tryd.ntmps15
    go_wp2_with fail
    refine HI.out.mono ?_
    rintro e w1 ⟨rfl, hb1⟩
    have HB1 := hid (HB.out.trans (hb1.mono HB.out.size))
    clear hb1
    go_wp2
    go_ret
    exact ⟨rfl, HB1.out⟩
  · show Calls _ _ #[_, .int .i32 84] _ _
    clear hp
    go_enter Tryd.func15, Tryd.ntmps15
    go_wp2
    go_ret
    exact ⟨rfl, HB.out⟩
  · show Calls _ _ #[_, .int .i32 67] _ _
    clear hp
    go_enter Tryd.func15, Tryd.ntmps15
    go_wp2
    go_ret
    exact ⟨rfl, HB.out⟩
  · show Calls _ _ #[_, .int .i32 78] _ _
    clear hp
    go_enter Tryd.func15, Tryd.ntmps15
    go_wp2
    go_ret
    exact ⟨rfl, HB.out⟩

/-- the text of an instruction: the kind's word, and what it needs -/
def tailL (x : I) (nd : List UInt8) : List UInt8 := nd.flatMap fun ch => 32 :: partL x ch
def textL (x : I) : List UInt8 := match formTab[x.op.toNat]? with | none => [] | some (wd, nd) => wd ++ tailL x nd
theorem letters_all : (formTab.all fun p => p.2.all (fun ch => ch == 65 || ch == 66 || ch == 84 || ch == 67 || ch == 78) && decide (p.2.length ≤ 3) && decide (p.1.length ≤ 20)) = true := by decide +kernel
theorem letters_ok {k : Nat} {wd nd : List UInt8} (h : formTab[k]? = some (wd, nd)) : (∀ ch ∈ nd, Letter ch) ∧ nd.length ≤ 3 ∧ wd.length ≤ 20 := by
  have h1 := List.all_eq_true.1 letters_all _ (List.mem_of_getElem? h)
  simp only [Bool.and_eq_true, decide_eq_true_eq] at h1
  refine ⟨fun ch hc => ?_, h1.1.2, h1.2⟩
  have := List.all_eq_true.1 h1.1.1 ch hc
  simp at this
  unfold Letter
  rcases this with (((h | h) | h) | h) | h <;> simp [h]
theorem tail_next (x : I) (nd : List UInt8) {j : Nat} (hj : j < nd.length) : tailL x (nd.take (j + 1)) = tailL x (nd.take j) ++ 32 :: partL x nd[j] := by
  unfold tailL
  rw [List.take_succ_eq_append_getElem hj, List.flatMap_append]
  simp
end Go.Proofs.YtcbefaaipggakaaDoor.txts
