/- Worlds: W.round. Condition: the world is not great. -/
import Derived.Maps.RangeWalk
import Derived.Test.YtloonnfelgokmaaGreatDoorZWld7
import Derived.Test.YtloonnfelgokmaaGreatDoorZGrow
import Derived.Test.YtloonnfelgokmaaGreatDoorZLawZ
import Derived.Test.YtloonnfelgokmaaGreatDoorZWld1
import Derived.Test.YtloonnfelgokmaaGreatDoorZDescZ
set_option maxRecDepth 100000
set_option maxHeartbeats 16000000
set_option linter.unusedSimpArgs false
set_option linter.unusedVariables false
namespace Go.Proofs.YtloonnfelgokmaaGreatDoor.worlds
open Go.RowKit lib maps classes errs grow
def evR (W : WL) (a : ByteArray) : Value → World → Prop := fun v u => ∃ v', v = v' ∧ Sl u v' (everyU W a).length 1 ((sortB (everyU W a)).map .string)
theorem evR_stays (W : WL) (a : ByteArray) : ∀ v u u', Below u.heap.size u u' → evR W a v u → evR W a v u' := by
 rintro v u u' hb ⟨v', rfl, h⟩
 exact ⟨_, rfl, h.below hb⟩
theorem round1_any (W : WL) (b b1 b2 : Nat) (n a : ByteArray) (w : World) (hW : WAt w b W) (hs : ∀ x, (cAt W x).faces.length ≤ 1048576) (hm : most W ≤ 13000001) (hc1 : w.cell? ⟨b1, 0, none⟩ = some (.map (some b))) (hc2 : w.cell? ⟨b2, 0, none⟩ = some (.string n)) :
  Calls Tryz.prog 88 #[.string a, .pointer (some ⟨b1, 0, none⟩), .pointer (some ⟨b2, 0, none⟩)] w fun e w' => e = .returned (.bool (inTexts n (everyU W a))) ∧ Below w.heap.size w w' := by
 have HW := hid hW; have HS := hid hs; have HM := hid hm; have HC1 := hid hc1; have HC2 := hid hc2
 have HL : Hid ((everyU W a).length ≤ 1000000000000) := hid (by have := rounds_most W a (most W); unfold everyU; omega)
 clear hW hs hm hc1 hc2
 go_enter Tryz.func88, Tryz.ntmps88
 go_wp2_with fail
 refine wp_region_ext [(2, evR W a), (4, is (.bool (inTexts n (everyU W a))))] ⟨evR_stays W a, is_stays _, trivial⟩ (by kernel_rfl) (by kernel_rfl) ?_
 refine wpG_read 1 rfl rfl (.map (some b)) rfl ?_ ?_
 ·intro u hu hh
  have hq := (hu.cell (World.block_lt_of_cell? _ _ HC1.out)).trans HC1.out
  go_simp
 go_frame
 refine zgc 2 ?_
 go_frame
 refine wpG_rel 3 rfl rfl rfl ?_ ?_
 ·intro u hu hh
  go_simp
  refine (every_any W b a u (HW.out.below hu) HS.out HM.out).mono ?_
  rintro e w2 ⟨v, rfl, hs2, hb2⟩
  exact ⟨_, rfl, ⟨v, rfl, hs2⟩, hb2⟩
 intro vE ⟨uE, _, hrE⟩
 obtain ⟨ve, rfl, hsl⟩ := hrE
 obtain ⟨ae, ce, rfl⟩ := hsl.val
 clear hsl
 go_frame
 refine wpG_read 4 rfl rfl (.string n) rfl ?_ ?_
 ·intro u hu hh
  have hq := (hu.cell (World.block_lt_of_cell? _ _ HC2.out)).trans HC2.out
  go_simp
 go_frame
 refine wpG_rel 5 rfl rfl rfl ?_ ?_
 ·intro u hu hh
  obtain ⟨v2, hv2, hs2⟩ : evR W a _ u := hh 2 rfl
  subst hv2
  go_simp
  refine (hasText_any _ _ _ (sortB (everyU W a)) n u hs2 HL.out).mono ?_
  rintro e w2 ⟨rfl, rfl⟩
  exact ⟨_, rfl, by rw [inT_sort]; rfl, Below.refl _ _⟩
 intro vC ⟨uC, _, hrC⟩
 obtain rfl : vC = .bool (inTexts n (everyU W a)) := hrC
 go_frame
 refine zgc 6 ?_
 go_frame
 refine wpG_nil fun w' hb' hF => ?_
 clear hF
 go_wp2
 go_ret
 exact ⟨rfl, hb'⟩
def anyUp (W : WL) (n : ByteArray) (l : List ByteArray) : Bool := l.any fun a => inTexts n (everyU W a)
theorem up_yes {W : WL} {n : ByteArray} {l : List ByteArray} {k : Nat} (hk : k < l.length) (h : inTexts n (everyU W l[k]) = true) : anyUp W n (l.drop k) = true := by unfold anyUp; rw [List.drop_eq_getElem_cons hk, List.any_cons, h]; rfl
theorem up_no {W : WL} {n : ByteArray} {l : List ByteArray} {k : Nat} (hk : k < l.length) (h : inTexts n (everyU W l[k]) = false) : anyUp W n (l.drop k) = anyUp W n (l.drop (k + 1)) := by unfold anyUp; rw [List.drop_eq_getElem_cons hk, List.any_cons, h]; rfl
theorem up_end {W : WL} {n : ByteArray} {l : List ByteArray} {k : Nat} (hk : ¬ k < l.length) : anyUp W n (l.drop k) = false := by rw [List.drop_eq_nil_of_le (by omega)]; rfl
theorem indexR_any (W : WL) (b b1 b2 : Nat) (n : ByteArray) (va : Value) (l : List ByteArray) (w : World) (ha : Sl w va l.length 1 (l.map .string)) (hW : WAt w b W) (hs : ∀ x, (cAt W x).faces.length ≤ 1048576) (hm : most W ≤ 13000001) (hc1 : w.cell? ⟨b1, 0, none⟩ = some (.map (some b))) (hc2 : w.cell? ⟨b2, 0, none⟩ = some (.string n)) (hn : l.length ≤ 1000000000) :
  Calls Tryz.prog 152 #[va, .func (.func 88) #[] #[.pointer (some ⟨b1, 0, none⟩), .pointer (some ⟨b2, 0, none⟩)]] w fun e w' => ∃ z : Int, e = .returned (.int .i64 z) ∧ decide (0 ≤ z) = anyUp W n l ∧ Below w.heap.size w w' := by
 obtain ⟨a, c, rfl⟩ := ha.val
 have HA := hid ha; have HW := hid hW; have HS := hid hs; have HM := hid hm; have HC1 := hid hc1; have HC2 := hid hc2
 clear ha hW hs hm hc1 hc2
 go_enter Tryz.func152, Tryz.ntmps152
 go_wp2_with fail
 go_loopw [8] (fun i wr => ∃ k : Nat, k ≤ l.length ∧ i = .int .i64 k ∧ Hid (Below w.heap.size w wr) ∧ Hid (anyUp W n l = anyUp W n (l.drop k))) (fun i _ => l.length - (intOf i).toNat)
 case atStart => exact ⟨0, Nat.zero_le _, rfl, hid (Below.refl _ _), hid rfl⟩
 case round =>
  obtain ⟨k, hk, rfl, HR, HP⟩ := hrel
  by_cases hlt : k < l.length
  ·obtain ⟨bb, off, hab, hd0⟩ := text_at (HA.out.below HR.out) hlt
   subst hab
   have hi : (0 : Int) ≤ (k : Int) := by omega
   have hkl : (k : Int) < (l.length : Int) := by omega
   have HY := hid (fun h => up_yes (W := W) (n := n) hlt h)
   have HN := hid (fun h => up_no (W := W) (n := n) hlt h)
   generalize l[k] = x at hd0 HY HN
   have HT := hid (round1_any W b b1 b2 n x wr (HW.out.below HR.out) HS.out HM.out (by rw [HR.out.cell (World.block_lt_of_cell? _ _ HC1.out)]; exact HC1.out) (by rw [HR.out.cell (World.block_lt_of_cell? _ _ HC2.out)]; exact HC2.out))
   go_wp2_with fail
   refine HT.out.mono ?_
   rintro e w1 ⟨rfl, hb1⟩
   have HR1 := hid (HR.out.trans (hb1.mono HR.out.size))
   clear hb1
   by_cases h2 : inTexts n (everyU W x) = true
   ·have HT2 : Hid (anyUp W n l = true) := hid (HP.out.trans (HY.out h2))
    rw [h2]
    clear h2
    go_wp2_with fail
    go_ret
    exact ⟨_, rfl, by rw [HT2.out]; exact decide_eq_true (by omega), HR1.out⟩
   ·have h3 : inTexts n (everyU W x) = false := by simpa using h2
    have HP2 := hid (HP.out.trans (HN.out h3))
    rw [h3]
    clear h2 h3
    go_wp2_with fail
    go_roundw
    case rel => exact ⟨k + 1, by omega, by go_num, HR1, HP2⟩
    case measure => simp [intOf]; omega
  ·have HF : Hid (anyUp W n l = false) := hid (HP.out.trans (up_end hlt))
   go_wp2_with fail
   go_ret
   exact ⟨_, rfl, by rw [HF.out]; rfl, HR.out⟩
theorem containsR_any (W : WL) (b b1 b2 : Nat) (n : ByteArray) (va : Value) (l : List ByteArray) (w : World) (ha : Sl w va l.length 1 (l.map .string)) (hW : WAt w b W) (hs : ∀ x, (cAt W x).faces.length ≤ 1048576) (hm : most W ≤ 13000001) (hc1 : w.cell? ⟨b1, 0, none⟩ = some (.map (some b))) (hc2 : w.cell? ⟨b2, 0, none⟩ = some (.string n)) (hn : l.length ≤ 1000000000) :
  Calls Tryz.prog 86 #[va, .func (.func 88) #[] #[.pointer (some ⟨b1, 0, none⟩), .pointer (some ⟨b2, 0, none⟩)]] w fun e w' => e = .returned (.bool (anyUp W n l)) ∧ Below w.heap.size w w' := by
 have HI := hid (indexR_any W b b1 b2 n va l w ha hW hs hm hc1 hc2 hn)
 obtain ⟨a, c, rfl⟩ := ha.val
 clear ha hc1 hc2 hW hs hm
 go_enter Tryz.func86, Tryz.ntmps86
 go_wp2_with fail
 refine HI.out.mono ?_
 rintro e w1 ⟨z, rfl, hz, hb⟩
 have HZ := hid hz
 clear hz
 go_wp2_with fail
 go_ret
 exact ⟨by rw [← HZ.out]; rfl, hb⟩
theorem round_any (W : WL) (b : Nat) (n : ByteArray) (w : World) (hW : WAt w b W) (hs : ∀ x, (cAt W x).faces.length ≤ 1048576) (hm : most W ≤ 13000001) :
  Calls Tryz.prog 47 #[.map (some b), .string n] w fun e w' => e = .returned (.bool (roundW W n)) ∧ Below w.heap.size w w' := by
 have HW := hid hW; have HS := hid hs; have HM := hid hm
 obtain ⟨W1, hW1⟩ : ∃ W1, w.alloc (.cells #[.map (some b)] 64) = W1 := ⟨_, rfl⟩
 have HB1 : Hid (Below w.heap.size w W1) := hid (hW1 ▸ ext_alloc _ _)
 have hlt1 : w.heap.size < W1.heap.size := by rw [← hW1]; simp
 have hr1 : W1.heap[w.heap.size]? = some (.cells #[.map (some b)] 64 (0, 0)) := hW1 ▸ heap_alloc_new _ _
 obtain ⟨W2, hW2⟩ : ∃ W2, W1.alloc (.cells #[.string n] 9) = W2 := ⟨_, rfl⟩
 have HB12 : Hid (Below W1.heap.size W1 W2) := hid (hW2 ▸ ext_alloc _ _)
 have HB2 := hid (HB1.out.trans (HB12.out.mono HB1.out.size))
 have hr2 : W2.heap[W1.heap.size]? = some (.cells #[.string n] 9 (0, 0)) := hW2 ▸ heap_alloc_new _ _
 have k1 : W2.cell? ⟨w.heap.size, 0, none⟩ = some (.map (some b)) := by rw [HB12.out.cell hlt1, cell_of_row _ _ _ _ _ _ hr1]; rfl
 have k2 : W2.cell? ⟨W1.heap.size, 0, none⟩ = some (.string n) := by rw [cell_of_row _ _ _ _ _ _ hr2]; rfl
 have hlt2 : W1.heap.size < W2.heap.size := by rw [← hW2]; simp
 have hAl : (above W n).length ≤ 1048577 := by
  have := hs n
  unfold above aboveC
  split
  ·omega
  ·simp only [List.length_cons]; omega
 have HAL := hid hAl
 have HK1 := hid k1; have HK2 := hid k2; have HL1 := hid hlt1; have HL2 := hid hlt2
 clear hW hs hm hr1 hr2 hAl
 go_enter Tryz.func47, Tryz.ntmps47
 go_wp2_with fail
 refine (above_any W b n _ (HW.out.below HB2.out) (HS.out n)).mono ?_
 rintro e w3 ⟨vA, rfl, hsa, hb3, -⟩
 have HB3 := hid (HB2.out.trans (hb3.mono HB2.out.size))
 have HSA := hid hsa
 have q1 := hid ((hb3.cell (Nat.lt_trans HL1.out HL2.out)).trans HK1.out)
 have q2 := hid ((hb3.cell HL2.out).trans HK2.out)
 clear hb3 hsa
 go_wp2_with fail
 refine (containsR_any W b w.heap.size W1.heap.size n vA (above W n) _ HSA.out (HW.out.below HB3.out) HS.out HM.out q1.out q2.out (by have := HAL.out; omega)).mono ?_
 rintro e w4 ⟨rfl, hb4⟩
 have HB4 := hid (HB3.out.trans (hb4.mono HB3.out.size))
 clear hb4
 go_wp2
 go_ret
 exact ⟨rfl, HB4.out⟩
open Go.RowKit lib maps classes errs ins
theorem cls_at {w : World} {a : Option Addr} {n c : Nat} {l : List CV} (h : Clss w (.slice a n c) l) {k : Nat} (hk : k < l.length) :
  ∃ b off, a = some ⟨b, off, none⟩ ∧ w.cell? ⟨b, off + k * 6, none⟩ = some (.string l[k].nm) ∧ w.cell? ⟨b, off + k * 6 + 1, none⟩ = some (.string l[k].sup) ∧ w.cell? ⟨b, off + k * 6 + 2, none⟩ = some l[k].vf ∧
   w.cell? ⟨b, off + k * 6 + 3, none⟩ = some (.bool l[k].face) ∧ w.cell? ⟨b, off + k * 6 + 4, none⟩ = some l[k].vd ∧ w.cell? ⟨b, off + k * 6 + 5, none⟩ = some l[k].vm := by
 obtain ⟨b, off, ha, hc⟩ := row_at (cells := CV.cells) (sz := 6) (fun _ => rfl) h.sl hk (by decide)
 refine ⟨b, off, ha, ?_, ?_, ?_, ?_, ?_, ?_⟩
 ·have := hc 0 (by decide); rw [Nat.add_zero] at this; exact this
 ·have := hc 1 (by decide); rw [← Nat.add_assoc] at this; exact this
 ·have := hc 2 (by decide); rw [← Nat.add_assoc] at this; exact this
 ·have := hc 3 (by decide); rw [← Nat.add_assoc] at this; exact this
 ·have := hc 4 (by decide); rw [← Nat.add_assoc] at this; exact this
 ·have := hc 5 (by decide); rw [← Nat.add_assoc] at this; exact this
theorem Clss.val {w : World} {v : Value} {l : List CV} (h : Clss w v l) : ∃ a c, v = .slice a l.length c := h.sl.val
def ReadBy (w : World) (l : List CV) (e : Ending) (w' : World) : Prop :=
 Below w.heap.size w w' ∧ (if (readW l).1 = 0 then e = .returned (.tuple #[.map (some w.heap.size), .nilIface]) ∧ WAt w' w.heap.size (readW l).2 else e = .returned (.tuple #[.map none, errVal (readW l).1]))
theorem readBy_err {w w' : World} {l : List CV} {z : Int} (h : (readW l).1 = z) (hz : z ≠ 0) (hb : Below w.heap.size w w') : ReadBy w l (.returned (.tuple #[.map none, .iface 53 (.int .i64 z)])) w' := by
 refine ⟨hb, ?_⟩
 rw [h, if_neg hz]
 unfold errVal
 rw [if_neg hz]
theorem readBy_ok {w w' : World} {l : List CV} {V : WL} (h : readW l = (0, V)) (hb : Below w.heap.size w w') (hv : WAt w' w.heap.size V) : ReadBy w l (.returned (.tuple #[.map (some w.heap.size), .nilIface])) w' := by
 refine ⟨hb, ?_⟩
 rw [h]
 exact ⟨rfl, hv⟩
theorem read_many {l : List CV} (h : 10 < l.length) : (readW l).1 = 4 := by unfold readW; rw [if_pos h]
theorem read_load {l : List CV} {z : Int} (h : ¬ 10 < l.length) (h1 : (load firstW l).1 = z) (hz : z ≠ 0) : (readW l).1 = z := by unfold readW; rw [if_neg h, if_pos (by rw [h1]; exact hz)]; exact h1
theorem read_join {l : List CV} {V : WL} {z : Int} (h : ¬ 10 < l.length) (h1 : load firstW l = (0, V)) (h2 : firstF (joinFault V) l = z) (hz : z ≠ 0) : (readW l).1 = z := by
 unfold readW; rw [if_neg h, h1, if_neg (by simp), if_pos (by rw [h2]; exact hz)]; exact h2
theorem read_round {l : List CV} {V : WL} (h : ¬ 10 < l.length) (h1 : load firstW l = (0, V)) (h2 : firstF (joinFault V) l = 0) (h3 : firstF (roundFault V) l ≠ 0) : (readW l).1 = 6 := by
 unfold readW; rw [if_neg h, h1, if_neg (by simp), if_neg (by rw [h2]; simp), if_pos h3]
theorem read_ok {l : List CV} {V : WL} (h : ¬ 10 < l.length) (h1 : load firstW l = (0, V)) (h2 : firstF (joinFault V) l = 0) (h3 : firstF (roundFault V) l = 0) : readW l = (0, V) := by
 unfold readW; rw [if_neg h, h1, if_neg (by simp), if_neg (by rw [h2]; simp), if_neg (by rw [h3]; simp)]
structure LdRel (w wr : World) (l : List CV) (k : Nat) (W : WL) : Prop where
 below : Below w.heap.size w wr
 at_ : WAt wr w.heap.size W
 all : ∀ p ∈ W, p.2.At w ∧ p.2.faces.length ≤ 1048576
 eq : load firstW l = load W (l.drop k)
theorem read_any (va : Value) (l : List CV) (w : World) (hl : Clss w va l) (hf : FormsAt w) (hsm : ∀ c ∈ l, SmallC c) (hn : l.length ≤ 1048576) :
  Calls Tryz.prog 20 #[va] w (ReadBy w l) := by
 obtain ⟨a, cap, rfl⟩ := hl.val
 have HL := hid hl; have HF := hid hf; have HSM := hid hsm
 clear hl hf hsm
 by_cases h10 : 10 < l.length
 ·have hz := hid (read_many h10)
  have h1 : (10 : Int) < (l.length : Int) := by omega
  clear h10
  go_enter Tryz.func20, Tryz.ntmps20
  go_wp2
  go_ret2
  exact readBy_err hz.out (by decide) (Below.refl _ _)
 have H10 := hid h10
 have h1 : ¬ (10 : Int) < (l.length : Int) := by omega
 have hl10 : l.length ≤ 10 := by omega
 clear h10
 go_enter Tryz.func20, Tryz.ntmps20
 go_wp2_with fail
 refine (first_any w).mono ?_
 rintro e w1 ⟨rfl, hw1, hb1⟩
 have HR0 : Hid (LdRel w w1 l 0 firstW) := hid ⟨hb1, hw1, fun p hp => by
  rcases List.mem_cons.1 hp with rfl | hp
  ·exact ⟨obj_at w, by simp [objC, zeroC]⟩
  ·obtain rfl := List.mem_singleton.1 hp
   exact ⟨flt_at w, by simp [fltC, zeroC]⟩, rfl⟩
 clear hw1 hb1
 go_wp2
 go_loopw [22] (fun v wr => ∃ (k : Nat) (W : WL), k ≤ l.length ∧ v = .int .i64 (k : Int) ∧ Hid (LdRel w wr l k W)) (fun v _ => l.length - (intOf v).toNat)
 case atStart => exact ⟨0, firstW, Nat.zero_le _, rfl, HR0⟩
 case round =>
  obtain ⟨k, W, hk, rfl, HR⟩ := hrel
  clear HR0
  obtain ⟨wa, hwa⟩ : ∃ wa, wa = wr := ⟨_, rfl⟩
  subst hwa
  have hk0 : (0 : Int) ≤ (k : Int) := by omega
  by_cases hlt : k < l.length
  ·have hk1 : (k : Int) < (l.length : Int) := by omega
   obtain ⟨bb, off, hab, hd0, hd1, hd2, hd3, hd4, hd5⟩ := cls_at (HL.out.below HR.out.below) hlt
   subst hab
   have hcat : l[k].At w := HL.out.at_ _ (List.getElem_mem hlt)
   have hcs : SmallC l[k] := HSM.out _ (List.getElem_mem hlt)
   have HB := hid (fun h => load_bad (W := W) hlt h)
   have HT := hid (fun h h2 => load_twice (W := W) hlt h h2)
   have HO := hid (fun h h2 => load_ok (W := W) hlt h h2)
   generalize l[k] = c at hd0 hd1 hd2 hd3 hd4 hd5 hcat hcs HB HT HO
   have HC := hid hcat; have HCS := hid hcs
   obtain ⟨nm, sup, vf, face, vd, vm, faces, fields, mets⟩ := c
   obtain ⟨a1, c1, a2, c2, a3, c3, e1, e2, e3⟩ := cls_vals hcat
   simp only at e1 e2 e3 hd0 hd1 hd2 hd3 hd4 hd5
   subst e1 e2 e3
   clear hcat hcs
   obtain ⟨W3, hW3⟩ : ∃ W3, wa.alloc (.cells #[.string nm, .string sup, .slice a1 faces.length c1, .bool face, .slice a2 fields.length c2, .slice a3 mets.length c3] 28) = W3 := ⟨_, rfl⟩
   have HBa : Hid (Below wa.heap.size wa W3) := hid (hW3 ▸ ext_alloc _ _)
   have HB3 := hid (HR.out.below.trans (HBa.out.mono HR.out.below.size))
   have HLT : Hid (wa.heap.size < W3.heap.size) := hid (by rw [← hW3]; simp)
   have HR3 : Hid (W3.heap[wa.heap.size]? = some (.cells #[.string nm, .string sup, .slice a1 faces.length c1, .bool face, .slice a2 fields.length c2, .slice a3 mets.length c3] 28 (0, 0))) := hid (hW3 ▸ heap_alloc_new _ _)
   have HX : Hid (∀ u, Below W3.heap.size W3 u → u.cell? ⟨wa.heap.size, 0, none⟩ = some (.string nm) ∧ u.cell? ⟨wa.heap.size, 1, none⟩ = some (.string sup) ∧ u.cell? ⟨wa.heap.size, 2, none⟩ = some (.slice a1 faces.length c1) ∧ u.cell? ⟨wa.heap.size, 3, none⟩ = some (.bool face) ∧ u.cell? ⟨wa.heap.size, 4, none⟩ = some (.slice a2 fields.length c2) ∧ u.cell? ⟨wa.heap.size, 5, none⟩ = some (.slice a3 mets.length c3)) := hid (fun u hu => by
    have h := (hu.block _ HLT.out).trans HR3.out
    refine ⟨?_, ?_, ?_, ?_, ?_, ?_⟩ <;> (rw [cell_of_row _ _ _ _ _ _ h]; rfl))
   obtain ⟨x0, x1, x2, x3, x4, x5⟩ := HX.out _ (Below.refl _ _)
   have HCHK := hid (ccheck_any ⟨nm, sup, .slice a1 faces.length c1, face, .slice a2 fields.length c2, .slice a3 mets.length c3, faces, fields, mets⟩ W3 (HC.out.below HB3.out) (HF.out.below HB3.out) HCS.out)
   go_wp2_with fail
   refine HCHK.out.mono ?_
   rintro e w4 ⟨rfl, hb4⟩
   have HB4 := hid (HB3.out.trans (hb4.mono HB3.out.size))
   have HW4 := hid (HR.out.at_.below ((HBa.out.trans (hb4.mono HBa.out.size))))
   obtain ⟨x0, x1, x2, x3, x4, x5⟩ := HX.out _ hb4
   have H34 := hid hb4
   clear hb4 HCHK
   obtain ⟨z, hz⟩ : ∃ z, clsFault ⟨nm, sup, .slice a1 faces.length c1, face, .slice a2 fields.length c2, .slice a3 mets.length c3, faces, fields, mets⟩ = z := ⟨_, rfl⟩
   rw [hz] at HB HT HO ⊢
   clear hz
   by_cases h0 : z = 0
   ·subst h0
    rw [show errVal 0 = .nilIface from rfl]
    obtain ⟨nm4, sup4, b1, m1, d1, fc4, b2, m2, d2, b3, m3, d3, _, _, hlk⟩ := look_ok HW4.out nm
    by_cases h5 : (getK W nm).isSome = true
    ·rw [h5] at hlk
     have HE : Hid ((readW l).1 = 5) := hid (read_load H10.out (by rw [HR.out.eq, HT.out rfl h5]) (by decide))
     clear h5
     go_wp2
     go_ret2
     exact readBy_err HE.out (by decide) (HB4.out.alloc HB4.out.size _)
    ·have hn5 : (getK W nm).isSome = false := by simpa using h5
     rw [hn5] at hlk
     have HE := hid (HO.out rfl h5)
     clear h5 hn5
     obtain ⟨W5, hW5⟩ : ∃ W5, w4.alloc (.cells #[.string nm4, .string sup4, .slice b1 m1 d1, .bool fc4, .slice b2 m2 d2, .slice b3 m3 d3] 28) = W5 := ⟨_, rfl⟩
     have HB45 : Hid (Below w4.heap.size w4 W5) := hid (hW5 ▸ ext_alloc _ _)
     have HB5 := hid (HB4.out.trans (HB45.out.mono HB4.out.size))
     have HW5 := hid (HW4.out.below HB45.out)
     obtain ⟨x0, x1, x2, x3, x4, x5⟩ := HX.out _ (H34.out.trans (HB45.out.mono H34.out.size))
     obtain ⟨u6, r6, m6, b6⟩ := world_set HW5.out HB5.out (Nat.le_refl _) (Nat.le_refl _) nm ⟨nm, sup, .slice a1 faces.length c1, face, .slice a2 fields.length c2, .slice a3 mets.length c3, faces, fields, mets⟩ HC.out (fun p hp => (HR.out.all p hp).1) rfl
     have r6' : (Instr.mapUpdate 64 (.map (some w.heap.size)) (.string nm) (.agg #[.string nm, .string sup, .slice a1 faces.length c1, .bool face, .slice a2 fields.length c2, .slice a3 mets.length c3])).run Tryz.prog W5 = .ok () u6 := r6
     have HN : Hid (LdRel w u6 l (k + 1) (setK W nm ⟨nm, sup, .slice a1 faces.length c1, face, .slice a2 fields.length c2, .slice a3 mets.length c3, faces, fields, mets⟩)) := hid ⟨b6, m6, fun p hp => by
      rcases mem_set hp with hp | rfl
      ·exact HR.out.all p hp
      ·exact ⟨HC.out, HCS.out.flen⟩, HR.out.eq.trans HE.out⟩
     clear r6 m6 b6
     go_wp2_with fail
     go_roundw
     case rel => exact ⟨k + 1, _, by omega, by simp, HN⟩
     case measure => simp [intOf]; omega
   ·rw [show errVal z = .iface 53 (.int .i64 z) from by unfold errVal; rw [if_neg h0]]
    have HE : Hid ((readW l).1 = z) := hid (read_load H10.out (by rw [HR.out.eq, HB.out h0]) h0)
    have HZ0 := hid h0
    clear h0
    go_wp2
    go_ret2
    exact readBy_err HE.out HZ0.out HB4.out
  ·obtain rfl : k = l.length := by omega
   have HV : Hid (load firstW l = (0, W)) := hid (by rw [HR.out.eq, load_end (by omega)])
   have HB0 := hid HR.out.below
   have HW0 := hid HR.out.at_
   have HFS : Hid (∀ x, (cAt W x).faces.length ≤ 1048576) := hid (fun x => by
    unfold cAt
    cases hg : getK W x with
    | none => simp [zeroC]
    | some c => exact (HR.out.all _ (getK_mem hg)).2)
   have HMO : Hid (most W ≤ 13000001) := hid (by
    have h := load_len HV.out
    have e : firstW.length = 2 := rfl
    exact Nat.le_trans (most_small (by omega) (fun p hp => (HR.out.all p hp).2)) (by omega))
   clear hlt HR
   go_wp2
   go_loopw [47] (fun v wr => ∃ k : Nat, k ≤ l.length ∧ v = .int .i64 (k : Int) ∧ Hid (Below wa.heap.size wa wr) ∧ Hid (firstF (joinFault W) (l.drop k) = firstF (joinFault W) l)) (fun v _ => l.length - (intOf v).toNat)
   case atStart => exact ⟨0, Nat.zero_le _, rfl, hid (Below.refl _ _), hid rfl⟩
   case round =>
    obtain ⟨k, hk, rfl, HBv, HFF⟩ := hrel
    obtain ⟨wb, hwb⟩ : ∃ wb, wb = wr := ⟨_, rfl⟩
    subst hwb
    have HBw := hid (HB0.out.trans (HBv.out.mono HB0.out.size))
    by_cases hlt : k < l.length
    ·have hk0 : (0 : Int) ≤ (k : Int) := by omega
     have hk1 : (k : Int) < (l.length : Int) := by omega
     obtain ⟨bb, off, hab, hd0, hd1, hd2, hd3, hd4, hd5⟩ := cls_at (HL.out.below HBw.out) hlt
     subst hab
     have hcat : l[k].At w := HL.out.at_ _ (List.getElem_mem hlt)
     have hcs : SmallC l[k] := HSM.out _ (List.getElem_mem hlt)
     have HY := hid (fun h => ff_no (f := joinFault W) hlt h)
     have HN := hid (fun h => ff_ok (f := joinFault W) hlt h)
     generalize l[k] = c at hd0 hd1 hd2 hd3 hd4 hd5 hcat hcs HY HN
     have HC := hid hcat; have HCS := hid hcs
     obtain ⟨nm, sup, vf, face, vd, vm, faces, fields, mets⟩ := c
     obtain ⟨a1, c1, a2, c2, a3, c3, e1, e2, e3⟩ := cls_vals hcat
     simp only at e1 e2 e3 hd0 hd1 hd2 hd3 hd4 hd5
     subst e1 e2 e3
     clear hcat hcs
     obtain ⟨W3, hW3⟩ : ∃ W3, wb.alloc (.cells #[.string nm, .string sup, .slice a1 faces.length c1, .bool face, .slice a2 fields.length c2, .slice a3 mets.length c3] 28) = W3 := ⟨_, rfl⟩
     have HBa : Hid (Below wb.heap.size wb W3) := hid (hW3 ▸ ext_alloc _ _)
     have HB3 := hid (HBw.out.trans (HBa.out.mono HBw.out.size))
     have hlt3 : wb.heap.size < W3.heap.size := by rw [← hW3]; simp
     have hr3 : W3.heap[wb.heap.size]? = some (.cells #[.string nm, .string sup, .slice a1 faces.length c1, .bool face, .slice a2 fields.length c2, .slice a3 mets.length c3] 28 (0, 0)) := hW3 ▸ heap_alloc_new _ _
     have x0 : W3.cell? ⟨wb.heap.size, 0, none⟩ = some (.string nm) := by rw [cell_of_row _ _ _ _ _ _ hr3]; rfl
     have x1 : W3.cell? ⟨wb.heap.size, 1, none⟩ = some (.string sup) := by rw [cell_of_row _ _ _ _ _ _ hr3]; rfl
     have x2 : W3.cell? ⟨wb.heap.size, 2, none⟩ = some (.slice a1 faces.length c1) := by rw [cell_of_row _ _ _ _ _ _ hr3]; rfl
     have x3 : W3.cell? ⟨wb.heap.size, 3, none⟩ = some (.bool face) := by rw [cell_of_row _ _ _ _ _ _ hr3]; rfl
     have x4 : W3.cell? ⟨wb.heap.size, 4, none⟩ = some (.slice a2 fields.length c2) := by rw [cell_of_row _ _ _ _ _ _ hr3]; rfl
     have x5 : W3.cell? ⟨wb.heap.size, 5, none⟩ = some (.slice a3 mets.length c3) := by rw [cell_of_row _ _ _ _ _ _ hr3]; rfl
     have HWW := hid (HW0.out.below (HBv.out.trans (HBa.out.mono HBv.out.size)))
     clear hr3
     go_wp2_with fail
     refine (joined_any W w.heap.size ⟨nm, sup, .slice a1 faces.length c1, face, .slice a2 fields.length c2, .slice a3 mets.length c3, faces, fields, mets⟩ W3 HWW.out (HC.out.below HB3.out) HCS.out.flen).mono ?_
     rintro e w4 ⟨rfl, hb4⟩
     have HB4 := hid (HB3.out.trans (hb4.mono HB3.out.size))
     have HV4 := hid (HBv.out.trans ((HBa.out.trans (hb4.mono HBa.out.size)).mono HBv.out.size))
     clear hb4
     obtain ⟨z, hz⟩ : ∃ z, joinFault W ⟨nm, sup, .slice a1 faces.length c1, face, .slice a2 fields.length c2, .slice a3 mets.length c3, faces, fields, mets⟩ = z := ⟨_, rfl⟩
     rw [hz] at HY HN ⊢
     clear hz
     by_cases h0 : z = 0
     ·have HN2 := hid ((HN.out h0).symm.trans HFF.out)
      rw [show errVal z = .nilIface from by unfold errVal; rw [if_pos h0]]
      clear h0
      go_wp2_with fail
      go_roundw
      case rel => exact ⟨k + 1, by omega, by simp, HV4, HN2⟩
      case measure => simp [intOf]; omega
     ·rw [show errVal z = .iface 53 (.int .i64 z) from by unfold errVal; rw [if_neg h0]]
      have HE : Hid ((readW l).1 = z) := hid (read_join H10.out HV.out (by rw [← HFF.out, HY.out h0]) h0)
      have HZ0 := hid h0
      clear h0
      go_wp2
      go_ret2
      exact readBy_err HE.out HZ0.out HB4.out
    ·obtain rfl : k = l.length := by omega
     have HJ : Hid (firstF (joinFault W) l = 0) := hid (by rw [← HFF.out, ff_end hlt])
     have HW0b := hid (HW0.out.below HBv.out)
     clear hlt HFF HW0 HBv HB0 hk
     have HW0 := HW0b
     have HB0 := HBw
     clear HW0b HBw
     go_wp2
     go_loopw [60] (fun v wr => ∃ k : Nat, k ≤ l.length ∧ v = .int .i64 (k : Int) ∧ Hid (Below wb.heap.size wb wr) ∧ Hid (firstF (roundFault W) (l.drop k) = firstF (roundFault W) l)) (fun v _ => l.length - (intOf v).toNat)
     case atStart => exact ⟨0, Nat.zero_le _, rfl, hid (Below.refl _ _), hid rfl⟩
     case round =>
      obtain ⟨k, hk, rfl, HBv, HFF⟩ := hrel
      obtain ⟨wd, hwd⟩ : ∃ wd, wd = wr := ⟨_, rfl⟩
      subst hwd
      have HBw := hid (HB0.out.trans (HBv.out.mono HB0.out.size))
      by_cases hlt : k < l.length
      ·have hk0 : (0 : Int) ≤ (k : Int) := by omega
       have hk1 : (k : Int) < (l.length : Int) := by omega
       obtain ⟨bb, off, hab, hd0, hd1, hd2, hd3, hd4, hd5⟩ := cls_at (HL.out.below HBw.out) hlt
       subst hab
       have hcat : l[k].At w := HL.out.at_ _ (List.getElem_mem hlt)
       have hcs : SmallC l[k] := HSM.out _ (List.getElem_mem hlt)
       have HY := hid (fun h => ff_no (f := roundFault W) hlt h)
       have HN := hid (fun h => ff_ok (f := roundFault W) hlt h)
       generalize l[k] = c at hd0 hd1 hd2 hd3 hd4 hd5 hcat hcs HY HN
       have HC := hid hcat; have HCS := hid hcs
       obtain ⟨nm, sup, vf, face, vd, vm, faces, fields, mets⟩ := c
       obtain ⟨a1, c1, a2, c2, a3, c3, e1, e2, e3⟩ := cls_vals hcat
       simp only at e1 e2 e3 hd0 hd1 hd2 hd3 hd4 hd5
       subst e1 e2 e3
       clear hcat hcs
       obtain ⟨W3, hW3⟩ : ∃ W3, wd.alloc (.cells #[.string nm, .string sup, .slice a1 faces.length c1, .bool face, .slice a2 fields.length c2, .slice a3 mets.length c3] 28) = W3 := ⟨_, rfl⟩
       have HBa : Hid (Below wd.heap.size wd W3) := hid (hW3 ▸ ext_alloc _ _)
       have HB3 := hid (HBw.out.trans (HBa.out.mono HBw.out.size))
       have hlt3 : wd.heap.size < W3.heap.size := by rw [← hW3]; simp
       have hr3 : W3.heap[wd.heap.size]? = some (.cells #[.string nm, .string sup, .slice a1 faces.length c1, .bool face, .slice a2 fields.length c2, .slice a3 mets.length c3] 28 (0, 0)) := hW3 ▸ heap_alloc_new _ _
       have x0 : W3.cell? ⟨wd.heap.size, 0, none⟩ = some (.string nm) := by rw [cell_of_row _ _ _ _ _ _ hr3]; rfl
       have x1 : W3.cell? ⟨wd.heap.size, 1, none⟩ = some (.string sup) := by rw [cell_of_row _ _ _ _ _ _ hr3]; rfl
       have x2 : W3.cell? ⟨wd.heap.size, 2, none⟩ = some (.slice a1 faces.length c1) := by rw [cell_of_row _ _ _ _ _ _ hr3]; rfl
       have x3 : W3.cell? ⟨wd.heap.size, 3, none⟩ = some (.bool face) := by rw [cell_of_row _ _ _ _ _ _ hr3]; rfl
       have x4 : W3.cell? ⟨wd.heap.size, 4, none⟩ = some (.slice a2 fields.length c2) := by rw [cell_of_row _ _ _ _ _ _ hr3]; rfl
       have x5 : W3.cell? ⟨wd.heap.size, 5, none⟩ = some (.slice a3 mets.length c3) := by rw [cell_of_row _ _ _ _ _ _ hr3]; rfl
       have HWW := hid (HW0.out.below (HBv.out.trans (HBa.out.mono HBv.out.size)))
       clear hr3
       go_wp2_with fail
       refine (round_any W w.heap.size nm W3 HWW.out HFS.out HMO.out).mono ?_
       rintro e w4 ⟨rfl, hb4⟩
       have HB4 := hid (HB3.out.trans (hb4.mono HB3.out.size))
       have HV4 := hid (HBv.out.trans ((HBa.out.trans (hb4.mono HBa.out.size)).mono HBv.out.size))
       clear hb4
       by_cases h0 : roundW W nm = true
       ·rw [h0]
        have HE : Hid ((readW l).1 = 6) := hid (read_round H10.out HV.out HJ.out (by
         rw [← HFF.out, HY.out (by unfold roundFault; rw [if_pos h0]; decide)]
         unfold roundFault; rw [if_pos h0]; decide))
        clear h0
        go_wp2
        go_ret2
        exact readBy_err HE.out (by decide) HB4.out
       ·have h1 : roundW W nm = false := by simpa using h0
        have HN2 := hid ((HN.out (by unfold roundFault; rw [if_neg h0])).symm.trans HFF.out)
        rw [h1]
        clear h0 h1
        go_wp2_with fail
        go_roundw
        case rel => exact ⟨k + 1, by omega, by simp, HV4, HN2⟩
        case measure => simp [intOf]; omega
      ·obtain rfl : k = l.length := by omega
       have HR : Hid (firstF (roundFault W) l = 0) := hid (by rw [← HFF.out, ff_end hlt])
       have HWE := hid (HW0.out.below HBv.out)
       clear hlt HFF
       go_wp2
       go_ret2
       exact readBy_ok (read_ok H10.out HV.out HJ.out HR.out) HBw.out HWE.out
open Go.RowKit lib maps classes errs descs names
theorem right_parts {l : List UInt8} (h : isTy l = true) : ∃ p t, l = p ++ t ∧ (∀ y ∈ p, y = 91) ∧ p.length ≤ 3 ∧ Core t ∧ coreB l = t := by
 simp only [isTy, decide_eq_true_eq] at h
 obtain ⟨p, t, r, rfl, hp, h3, ht⟩ := parts h.1
 have h1 := core_tail hp h3 ht r
 have hr : r = [] := by
  have h2 := h.2
  rw [h1, List.length_append, List.length_append] at h2
  exact List.eq_nil_of_length_eq_zero (by omega)
 subst hr
 rw [List.append_nil] at *
 refine ⟨p, t, rfl, hp, h3, ht, ?_⟩
 unfold coreB
 rcases ht with rfl | rfl | ⟨nm, rfl, _⟩
 ·exact dw hp (by decide)
 ·exact dw hp (by decide)
 ·exact dw hp (by decide)
theorem refs_any (k : ByteArray) (w : World) : Calls Tryz.prog 56 #[.string k] w fun e w' => e = .returned (.bool (refs k.data.toList)) ∧ w = w' := by
 have H1 : Hid (Calls Tryz.prog 51 #[.string k, .string { data := #[76] }] w fun e w' => e = .returned (.bool (decide (k.data.toList.head? = some 76))) ∧ w = w') := hid (by
  refine (Tryz.strings_HasPrefix k { data := #[76] } w).mono ?_
  rintro e w' ⟨rfl, rfl⟩
  exact ⟨by rw [← prefix_one], rfl⟩)
 have H2 : Hid (Calls Tryz.prog 51 #[.string k, .string { data := #[91] }] w fun e w' => e = .returned (.bool (decide (k.data.toList.head? = some 91))) ∧ w = w') := hid (by
  refine (Tryz.strings_HasPrefix k { data := #[91] } w).mono ?_
  rintro e w' ⟨rfl, rfl⟩
  exact ⟨by rw [← prefix_one], rfl⟩)
 obtain ⟨b1, hb1⟩ : ∃ b1, decide (k.data.toList.head? = some 76) = b1 := ⟨_, rfl⟩
 obtain ⟨b2, hb2⟩ : ∃ b2, decide (k.data.toList.head? = some 91) = b2 := ⟨_, rfl⟩
 have HR : Hid (refs k.data.toList = (b1 || b2)) := hid (by unfold refs; rw [hb1, hb2])
 rw [hb1] at H1
 rw [hb2] at H2
 clear hb1 hb2
 go_enter Tryz.func56, Tryz.ntmps56
 go_wp2_with fail
 refine H1.out.mono ?_
 rintro e w1 ⟨rfl, rfl⟩
 cases b1 with
 | true =>
  go_wp2
  go_ret
  exact ⟨by rw [HR.out]; rfl, rfl⟩
 | false =>
  go_wp2_with fail
  refine H2.out.mono ?_
  rintro e w2 ⟨rfl, rfl⟩
  go_wp2
  go_ret
  exact ⟨by rw [HR.out]; rfl, rfl⟩
theorem thing_cat (c : ByteArray) : (⟨#[76]⟩ : ByteArray) ++ c ++ ⟨#[59]⟩ = bs (thingB c) := by
 apply ByteArray.ext
 rw [ByteArray.data_append, ByteArray.data_append]
 apply Array.toList_inj.1
 simp [bs, thingB]
theorem thing_any (c : ByteArray) (w : World) (hc : c.size ≤ 10000000) : Calls Tryz.prog 100 #[.string c] w fun e w' => e = .returned (.string (bs (thingB c))) ∧ w = w' := by
 go_enter Tryz.func100, Tryz.ntmps100
 go_wp2
 go_ret
 refine ⟨?_, rfl⟩
 show Ending.returned (.string ((⟨#[76]⟩ : ByteArray) ++ c ++ ⟨#[59]⟩)) = _
 rw [thing_cat]
theorem class_any (s : ByteArray) (w : World) (hs : isTy s.data.toList = true) : Calls Tryz.prog 99 #[.string s] w fun e w' => e = .returned (.string (classN s.data.toList)) ∧ w = w' := by
 obtain ⟨p, t, hpt, hp, h3, ht, hcore⟩ := right_parts hs
 have HC : Hid (Lib.trimLeftB s.data.toList 91 = t) := hid hcore
 have HN : Hid (classN s.data.toList = bs (if isWd t = true then [] else (t.drop 1).dropLast)) := hid (by unfold classN classB; rw [hcore])
 obtain ⟨T, hT⟩ : ∃ T : ByteArray, (⟨t.toArray⟩ : ByteArray) = T := ⟨_, rfl⟩
 have hTl : T.data.toList = t := by rw [← hT]
 have HT := hid hT
 by_cases hw : isWd t = true
 ·have HW : Hid (isWd T.data.toList = true) := hid (by rw [hTl]; exact hw)
  have HN2 : Hid (classN s.data.toList = ⟨#[]⟩) := hid (by rw [HN.out, if_pos hw]; rfl)
  clear hpt hcore hT hTl hw ht
  go_enter Tryz.func99, Tryz.ntmps99
  go_wp2_with fail
  refine (Tryz.strings_TrimLeft_one s 91 (by decide) w).mono ?_
  rintro e w1 ⟨rfl, rfl⟩
  rw [HC.out, HT.out]
  go_wp2_with fail
  refine (number_any T _).mono ?_
  rintro e w2 ⟨rfl, rfl⟩
  rw [HW.out]
  go_wp2
  go_ret
  exact ⟨by rw [HN2.out]; rfl, rfl⟩
 ·obtain ⟨nm, rfl, hnm⟩ : ∃ nm, t = 76 :: (nm ++ [59]) ∧ nameOk nm = true := by
   rcases ht with rfl | rfl | h
   ·exact absurd rfl hw
   ·exact absurd rfl hw
   ·exact h
  have hwf : isWd T.data.toList = false := by rw [hTl]; simpa using hw
  have HW := hid hwf
  have hsz : T.size = nm.length + 2 := by
   show T.data.size = _
   rw [← Array.length_toList, hTl]; simp
  have HN2 : Hid (classN s.data.toList = T.extract 1 (nm.length + 1)) := hid (by
   rw [HN.out, if_neg hw]
   have : (T.extract 1 (nm.length + 1)).data.toList = nm := by
    rw [ByteArray.data_extract, Array.toList_extract, hTl]
    simp [List.extract]
   have e2 : (List.drop 1 (76 :: (nm ++ [59]))).dropLast = nm := by simp
   rw [e2]
   cases hx : T.extract 1 (nm.length + 1) with
   | mk d =>
    rw [hx] at this
    unfold bs
    congr 1
    rw [← this])
  have hnl : nm.length ≤ 20 := by
   simp only [nameOk, Bool.and_eq_true, decide_eq_true_eq] at hnm
   exact hnm.1.1.2
  have hwm : wrap64 ((nm.length : Int) + 2 - 1) = (nm.length : Int) + 1 := by unfold wrap64; omega
  have hwn : ((nm.length : Int) + 1).toNat = nm.length + 1 := by omega
  have hn0 : (0 : Int) ≤ (nm.length : Int) := by omega
  clear hpt hcore hT hTl hw hwf hnm
  go_enter Tryz.func99, Tryz.ntmps99
  go_wp2_with fail
  refine (Tryz.strings_TrimLeft_one s 91 (by decide) w).mono ?_
  rintro e w1 ⟨rfl, rfl⟩
  rw [HC.out, HT.out]
  go_wp2_with fail
  refine (number_any T _).mono ?_
  rintro e w2 ⟨rfl, rfl⟩
  rw [HW.out]
  go_wp2
  go_ret
  exact ⟨by rw [HN2.out]; first | rfl | (simp [hwm, hwn]; done), rfl⟩
theorem clsN_no (t : List UInt8) : classN t = noB ↔ classB t = [] := by
 unfold classN bs noB
 constructor
 ·intro h
  have := congrArg (fun x : ByteArray => x.data.toList) h
  simpa using this
 ·intro h; rw [h]
theorem kind_any (W : WL) (b : Nat) (k : ByteArray) (w : World) (hW : WAt w b W) (hk : k.size ≤ 9223372036854775807) :
  Calls Tryz.prog 91 #[.map (some b), .string k] w fun e w' => e = .returned (errVal (kindF W k.data.toList)) ∧ Below w.heap.size w w' := by
 have HW := hid hW; have HK := hid hk
 clear hW hk
 by_cases h1 : k.data.toList = [78]
 ·have g1 : k.toList = [78] := str_list.2 h1
  have HZ : Hid (kindF W k.data.toList = 0) := hid (if_pos (.inl h1))
  clear h1
  go_enter Tryz.func91, Tryz.ntmps91
  go_wp2
  go_ret
  exact ⟨by rw [HZ.out]; rfl, Below.refl _ _⟩
 by_cases h2 : k.data.toList = [84]
 ·have g1 : k.toList = [84] := str_list.2 h2
  have HZ : Hid (kindF W k.data.toList = 0) := hid (if_pos (.inr h2))
  clear h1 h2
  go_enter Tryz.func91, Tryz.ntmps91
  go_wp2
  go_ret
  exact ⟨by rw [HZ.out]; rfl, Below.refl _ _⟩
 have g1 : ¬ k.toList = [78] := fun h => h1 (str_list.1 h)
 have g2 : ¬ k.toList = [84] := fun h => h2 (str_list.1 h)
 have g3 : (k.toList == [78]) = false := beq_eq_false_iff_ne.2 g1
 have g4 : (k.toList == [84]) = false := beq_eq_false_iff_ne.2 g2
 have HZ : Hid (kindF W k.data.toList = if isTy k.data.toList = false then 1 else if classB k.data.toList ≠ [] ∧ getK W (classN k.data.toList) = none then 3 else 0) := hid (if_neg (fun h => h.elim h1 h2))
 clear h1 h2
 by_cases h3 : isTy k.data.toList = true
 ·have H3 := hid h3
  have HZ2 := hid HZ.out
  rw [if_neg (by rw [h3]; simp)] at HZ2
  have HCK := hid (tcheck_any k w HK.out)
  unfold names.Checked at HCK
  rw [h3, if_pos rfl] at HCK
  clear h3 HZ
  go_enter Tryz.func91, Tryz.ntmps91
  go_wp2_with fail
  refine HCK.out.mono ?_
  rintro e w1 ⟨rfl, hb1⟩
  have HB1 := hid hb1
  clear hb1
  go_wp2_with fail
  refine (class_any k w1 H3.out).mono ?_
  rintro e w2 ⟨rfl, rfl⟩
  obtain ⟨c, hc⟩ : ∃ c, classN k.data.toList = c := ⟨_, rfl⟩
  by_cases h4 : classB k.data.toList = []
  ·have h5 : c.toList = [] := (noB_iff c).1 (hc ▸ (clsN_no _).2 h4)
   have h6 : (c.toList == []) = true := by rw [h5]; rfl
   have hz := HZ2.out
   rw [if_neg (by rintro ⟨h, _⟩; exact h h4)] at hz
   have HZ3 := hid hz
   rw [hc]
   clear h4 hz hc
   go_wp2
   go_ret
   exact ⟨by rw [HZ3.out]; rfl, HB1.out⟩
  ·have h5 : ¬ c.toList = [] := fun h => h4 ((clsN_no _).1 (hc.trans ((noB_iff c).2 h)))
   have h6 : (c.toList == []) = false := beq_eq_false_iff_ne.2 h5
   have hz := HZ2.out
   rw [hc] at hz ⊢
   obtain ⟨nm4, sup4, b1, m1, d1, fc4, b2, m2, d2, b3, m3, d3, _, _, hlk⟩ := look_ok (HW.out.below HB1.out) c
   cases hg : getK W c with
   | none =>
    rw [hg] at hlk hz
    rw [if_pos ⟨h4, rfl⟩] at hz
    have HZ3 := hid hz
    simp only [Option.isSome_none] at hlk
    clear h4 hz hg
    go_wp2
    go_ret
    exact ⟨by rw [HZ3.out]; rfl, HB1.out.alloc HB1.out.size _⟩
   | some q =>
    rw [hg] at hlk hz
    rw [if_neg (by rintro ⟨_, h⟩; cases h)] at hz
    have HZ3 := hid hz
    simp only [Option.isSome_some] at hlk
    clear h4 hz hg
    go_wp2
    go_ret
    exact ⟨by rw [HZ3.out]; rfl, HB1.out.alloc HB1.out.size _⟩
 ·have h3' : isTy k.data.toList = false := by simpa using h3
  have HZ2 := hid HZ.out
  rw [if_pos h3'] at HZ2
  have HCK := hid (tcheck_any k w HK.out)
  unfold names.Checked at HCK
  rw [h3', if_neg (by simp)] at HCK
  clear h3 h3' HZ
  go_enter Tryz.func91, Tryz.ntmps91
  go_wp2_with fail
  refine HCK.out.mono ?_
  rintro e w1 ⟨rfl, hb1⟩
  have HB1 := hid hb1
  clear hb1
  go_wp2
  go_ret
  exact ⟨by rw [HZ2.out]; rfl, HB1.out⟩
theorem does_same (W : WL) (x : UInt8) (a : List UInt8) : doesL W (x :: a) (x :: a) = true := by unfold doesL; rw [if_pos (.inr (.inl rfl))]
section
variable {W : WL} {x y : UInt8} {a c : List UInt8} (h84 : ¬ y :: c = [84]) (hne : ¬ x :: a = y :: c) (h78 : ¬ x :: a = [78])
include h84 hne h78
theorem does_head : ¬ (y :: c = [84] ∨ x :: a = y :: c ∨ (x :: a = [78] ∧ refs (y :: c) = true)) := by
 rintro (h | h | h)
 ·exact h84 h
 ·exact hne h
 ·exact h78 h.1
theorem does_no (hr : refs (x :: a) = false ∨ refs (y :: c) = false) : doesL W (x :: a) (y :: c) = false := by
 unfold doesL; rw [if_neg (does_head h84 hne h78), if_pos hr]
theorem does_cls (hr : refs (y :: c) = true) (hx : x = 76) : doesL W (x :: a) (y :: c) = (decide ((y :: c).head? = some 76) && inTexts (classN (y :: c)) (everyU W (classN (x :: a)))) := by
 have h1 : refs (x :: a) = true := by subst hx; rfl
 unfold doesL; rw [if_neg (does_head h84 hne h78), if_neg (by rw [h1, hr]; simp), if_pos hx]
theorem does_obj (h1 : refs (x :: a) = true) (hx : ¬ x = 76) (hy : y = 76) : doesL W (x :: a) (y :: c) = decide (y :: c = objT) := by
 have h2 : refs (y :: c) = true := by subst hy; rfl
 unfold doesL; rw [if_neg (does_head h84 hne h78), if_neg (by rw [h1, h2]; simp), if_neg hx]; simp only [hy, if_true]
theorem does_arr (h1 : refs (x :: a) = true) (h2 : refs (y :: c) = true) (hx : ¬ x = 76) (hy : ¬ y = 76) : doesL W (x :: a) (y :: c) = (refs a && (refs c && doesL W a c)) := by
 rw [doesL]; rw [if_neg (does_head h84 hne h78), if_neg (by rw [h1, h2]; simp), if_neg hx]; simp only [hy, if_false]
end
theorem refs_head {x : UInt8} {a : List UInt8} : refs (x :: a) = true ↔ x = 76 ∨ x = 91 := by
 unfold refs
 simp
theorem ty_tail {a : List UInt8} (h : isTy (91 :: a) = true) : isTy a = true := by
 obtain ⟨p, t, hpt, hp, h3, ht, _⟩ := right_parts h
 cases p with
 | nil =>
  rw [List.nil_append] at hpt
  subst hpt
  rcases ht with ht | ht | ⟨nm, ht, _⟩ <;> simp at ht
 | cons z p =>
  simp only [List.cons_append, List.cons.injEq] at hpt
  obtain ⟨_, rfl⟩ := hpt
  have h1 := core_tail (p := p) (t := t) (fun y hy => hp y (List.mem_cons_of_mem _ hy)) (by simp only [List.length_cons] at h3; omega) ht []
  rw [List.append_nil] at h1
  have ht0 : 1 ≤ t.length := by rcases ht with rfl | rfl | ⟨nm, rfl, _⟩ <;> simp
  simp only [isTy, decide_eq_true_eq]
  rw [h1, List.length_append]
  exact ⟨by omega, rfl⟩
theorem does_any (W : WL) (b : Nat) (hs : ∀ x, (cAt W x).faces.length ≤ 1048576) (hm : most W ≤ 13000001) : ∀ (N : Nat) (f t : ByteArray) (w : World), f.size ≤ N → isTy f.data.toList = true → isTy t.data.toList = true → WAt w b W →
  Calls Tryz.prog 57 #[.map (some b), .string f, .string t] w fun e w' => e = .returned (.bool (doesL W f.data.toList t.data.toList)) ∧ Below w.heap.size w w' := by
 intro N
 induction N with
 | zero =>
  intro f t w hN hf
  have : f.data.toList = [] := by
   have h : f.data.size = 0 := Nat.le_zero.1 hN
   rw [← Array.length_toList] at h
   exact List.eq_nil_of_length_eq_zero h
  rw [this] at hf
  exact absurd hf (by decide)
 | succ N ih =>
  intro f t w hN hf ht hW
  obtain ⟨x, a, hF⟩ : ∃ x a, f.data.toList = x :: a := by
   cases h : f.data.toList with
   | nil => rw [h] at hf; exact absurd hf (by decide)
   | cons x a => exact ⟨x, a, rfl⟩
  obtain ⟨y, c, hT⟩ : ∃ y c, t.data.toList = y :: c := by
   cases h : t.data.toList with
   | nil => rw [h] at ht; exact absurd ht (by decide)
   | cons x a => exact ⟨x, a, rfl⟩
  have n84 : ¬ y :: c = [84] := fun h => by rw [hT, h] at ht; exact absurd ht (by decide +kernel)
  have n78 : ¬ x :: a = [78] := fun h => by rw [hF, h] at hf; exact absurd hf (by decide +kernel)
  have g1 : ¬ t.toList = [84] := fun h => n84 (hT ▸ str_list.1 h)
  have g2 : ¬ f.toList = [78] := fun h => n78 (hF ▸ str_list.1 h)
  have g3 : (t.toList == [84]) = false := beq_eq_false_iff_ne.2 g1
  have g4 : (f.toList == [78]) = false := beq_eq_false_iff_ne.2 g2
  have HW := hid hW; have HF := hid hF; have HT := hid hT; have HTF := hid hf; have HTT := hid ht
  by_cases hft : f = t
  ·have s1 := str_eqb hft
   have HZ : Hid (doesL W f.data.toList t.data.toList = true) := hid (by rw [← hft, hF]; exact does_same W x a)
   have s2 : f.toList = t.toList := by rw [hft]
   clear hft hW hF hT hf ht n84 n78 ih
   go_enter Tryz.func57, Tryz.ntmps57
   go_wp2
   go_ret
   exact ⟨by rw [HZ.out]; rfl, Below.refl _ _⟩
  have s1 := str_neb hft
  have s2 : ¬ f.toList = t.toList := fun h => hft (by
   rw [ByteArray.toList_eq, ByteArray.toList_eq] at h
   exact ByteArray.ext (Array.toList_inj.1 h))
  have nne : ¬ x :: a = y :: c := fun h => hft (ByteArray.ext (Array.toList_inj.1 (by rw [hF, hT]; exact h)))
  have HRF := hid (refs_any f)
  have HRT := hid (refs_any t)
  rw [hF] at HRF
  rw [hT] at HRT
  rw [hF, hT]
  cases hr1 : refs (x :: a) with
  | false =>
   have HZ := hid (does_no (W := W) n84 nne n78 (.inl hr1))
   rw [hr1] at HRF
   clear hft hW hF hT hf ht n84 n78 nne ih hr1
   go_enter Tryz.func57, Tryz.ntmps57
   go_wp2_with fail
   refine (HRF.out _).mono ?_
   rintro e w1 ⟨rfl, rfl⟩
   go_wp2
   go_ret
   exact ⟨by rw [HZ.out]; rfl, Below.refl _ _⟩
  | true =>
   rw [hr1] at HRF
   cases hr2 : refs (y :: c) with
   | false =>
    have HZ := hid (does_no (W := W) n84 nne n78 (.inr hr2))
    rw [hr2] at HRT
    clear hft hW hF hT hf ht n84 n78 nne ih hr1 hr2
    go_enter Tryz.func57, Tryz.ntmps57
    go_wp2_with fail
    refine (HRF.out _).mono ?_
    rintro e w1 ⟨rfl, rfl⟩
    go_wp2_with fail
    refine (HRT.out _).mono ?_
    rintro e w2 ⟨rfl, rfl⟩
    go_wp2
    go_ret
    exact ⟨by rw [HZ.out]; rfl, Below.refl _ _⟩
   | true =>
    rw [hr2] at HRT
    obtain ⟨hf0, hfx⟩ := first_byte hF
    obtain ⟨ht0, hty⟩ := first_byte hT
    have hf0' : (0 : Int) < (f.size : Int) := by omega
    have ht0' : (0 : Int) < (t.size : Int) := by omega
    by_cases hx : x = 76
    ·have HZ := hid (does_cls (W := W) n84 nne n78 hr2 hx)
     have HCF := hid (fun u => class_any f u HTF.out)
     have HCT := hid (fun u => class_any t u HTT.out)
     rw [hF] at HCF
     rw [hT] at HCT
     have HLE : Hid ((everyU W (classN (x :: a))).length ≤ 1000000000000) := hid (by have := rounds_most W (classN (x :: a)) (most W); unfold everyU; omega)
     subst hx
     by_cases hy : y = 76
     ·subst hy
      clear hft hW hF hT hf ht n84 n78 nne ih hr1 hr2
      go_enter Tryz.func57, Tryz.ntmps57
      go_wp2_with fail
      refine (HRF.out _).mono ?_
      rintro e w1 ⟨rfl, rfl⟩
      go_wp2_with fail
      refine (HRT.out _).mono ?_
      rintro e w2 ⟨rfl, rfl⟩
      go_wp2_with fail
      refine (HCF.out _).mono ?_
      rintro e w3 ⟨rfl, rfl⟩
      go_wp2_with fail
      refine (every_any W b _ _ HW.out hs hm).mono ?_
      rintro e w4 ⟨v, rfl, hsl, hb4⟩
      have HSL := hid hsl
      have HB4 := hid hb4
      obtain ⟨av, cv, rfl⟩ := hsl.val
      clear hsl hb4
      go_wp2_with fail
      refine (HCT.out _).mono ?_
      rintro e w5 ⟨rfl, rfl⟩
      go_wp2_with fail
      refine (hasText_any _ _ _ (sortB (everyU W (classN (76 :: a)))) _ _ HSL.out HLE.out).mono ?_
      rintro e w6 ⟨rfl, rfl⟩
      go_wp2
      go_ret
      refine ⟨?_, HB4.out⟩
      rw [HZ.out]
      first | (rw [inT_sort]; simp; done) | (simp [inT_sort]; done)
     ·have hyb : (y == 76) = false := by simpa using hy
      have HZ2 : Hid (doesL W (76 :: a) (y :: c) = false) := hid (by
       rw [HZ.out]
       simp [hy])
      have hyn : ¬ (y.toNat : Int) = 76 := fun h => hy (by
       apply UInt8.toNat.inj
       show y.toNat = 76
       omega)
      clear hft hW hF hT hf ht n84 n78 nne hr1 hr2 ih
      go_enter Tryz.func57, Tryz.ntmps57
      go_wp2_with fail
      refine (HRF.out _).mono ?_
      rintro e w1 ⟨rfl, rfl⟩
      go_wp2_with fail
      refine (HRT.out _).mono ?_
      rintro e w2 ⟨rfl, rfl⟩
      go_wp2
      go_ret
      exact ⟨by rw [HZ2.out]; rfl, Below.refl _ _⟩
    ·obtain rfl : x = 91 := (refs_head.1 hr1).resolve_left hx
     by_cases hy : y = 76
     ·subst hy
      have HZ := hid (does_obj (W := W) n84 nne n78 hr1 hx rfl)
      obtain ⟨TB, hTB⟩ : ∃ TB, bs (thingB objB) = TB := ⟨_, rfl⟩
      have HTB := hid hTB
      have hTBl : TB.data.toList = objT := by rw [← hTB]; rfl
      by_cases hto : t = TB
      ·have s5 := str_eqb hto
       have HZ2 : Hid (doesL W (91 :: a) (76 :: c) = true) := hid (by
        rw [HZ.out, ← hT, hto, hTBl]; simp)
       clear hto hTB hTBl
       clear hft hW hF hT hf ht n84 n78 nne hr1 hr2 ih
       go_enter Tryz.func57, Tryz.ntmps57
       go_wp2_with fail
       refine (HRF.out _).mono ?_
       rintro e w1 ⟨rfl, rfl⟩
       go_wp2_with fail
       refine (HRT.out _).mono ?_
       rintro e w2 ⟨rfl, rfl⟩
       go_wp2_with fail
       refine (thing_any objB _ (by decide)).mono ?_
       rintro e w3 ⟨rfl, rfl⟩
       rw [HTB.out]
       go_wp2
       go_ret
       exact ⟨by rw [HZ2.out]; rfl, Below.refl _ _⟩
      ·have s5 := str_neb hto
       have s6 : ¬ t.toList = TB.toList := fun h => hto (by
        rw [ByteArray.toList_eq, ByteArray.toList_eq] at h
        exact ByteArray.ext (Array.toList_inj.1 h))
       have HZ2 : Hid (doesL W (91 :: a) (76 :: c) = false) := hid (by
        rw [HZ.out]
        refine decide_eq_false fun h => hto (ByteArray.ext (Array.toList_inj.1 ?_))
        rw [hT, h, hTBl])
       clear hto hTB hTBl
       clear hft hW hF hT hf ht n84 n78 nne hr1 hr2 ih
       go_enter Tryz.func57, Tryz.ntmps57
       go_wp2_with fail
       refine (HRF.out _).mono ?_
       rintro e w1 ⟨rfl, rfl⟩
       go_wp2_with fail
       refine (HRT.out _).mono ?_
       rintro e w2 ⟨rfl, rfl⟩
       go_wp2_with fail
       refine (thing_any objB _ (by decide)).mono ?_
       rintro e w3 ⟨rfl, rfl⟩
       rw [HTB.out]
       go_wp2
       go_ret
       exact ⟨by rw [HZ2.out]; rfl, Below.refl _ _⟩
     ·obtain rfl : y = 91 := (refs_head.1 hr2).resolve_left hy
      have HZ := hid (does_arr (W := W) n84 nne n78 hr1 hr2 hx hy)
      have HTA := hid (ty_tail (hF ▸ hf))
      have HTC := hid (ty_tail (hT ▸ ht))
      obtain ⟨FA, hFA⟩ : ∃ FA, f.extract 1 f.size = FA := ⟨_, rfl⟩
      obtain ⟨TA, hTA⟩ : ∃ TA, t.extract 1 t.size = TA := ⟨_, rfl⟩
      have hFAl : FA.data.toList = a := by
       rw [← hFA, ByteArray.data_extract, Array.toList_extract, hF]
       have : f.size = a.length + 1 := by
        show f.data.size = _
        rw [← Array.length_toList, hF]; rfl
       rw [this]; simp [List.extract]
      have hTAl : TA.data.toList = c := by
       rw [← hTA, ByteArray.data_extract, Array.toList_extract, hT]
       have : t.size = c.length + 1 := by
        show t.data.size = _
        rw [← Array.length_toList, hT]; rfl
       rw [this]; simp [List.extract]
      have HSF : Hid (FA.size ≤ N) := hid (by
       have h1 : FA.size = a.length := by show FA.data.size = _; rw [← Array.length_toList, hFAl]
       have h2 : f.size = a.length + 1 := by show f.data.size = _; rw [← Array.length_toList, hF]; rfl
       omega)
      have HFA := hid hFAl; have HTAl := hid hTAl
      have q1 : (1 : Int) ≤ (f.size : Int) := by omega
      have q2 : (1 : Int) ≤ (t.size : Int) := by omega
      have HIH : Hid (∀ u, WAt u b W → Calls Tryz.prog 57 #[.map (some b), .string FA, .string TA] u fun e w' => e = .returned (.bool (doesL W a c)) ∧ Below u.heap.size u w') := hid (fun u hu => by
       have h := ih FA TA u HSF.out (by rw [hFAl]; exact HTA.out) (by rw [hTAl]; exact HTC.out) hu
       rw [hFAl, hTAl] at h; exact h)
      have HRA := hid (refs_any FA)
      have HRC := hid (refs_any TA)
      rw [hFAl] at HRA
      rw [hTAl] at HRC
      obtain ⟨r1, hr1'⟩ : ∃ r1, refs a = r1 := ⟨_, rfl⟩
      obtain ⟨r2, hr2'⟩ : ∃ r2, refs c = r2 := ⟨_, rfl⟩
      rw [hr1'] at HRA HZ
      rw [hr2'] at HRC HZ
      clear hr1' hr2'
      clear hFAl hTAl
      clear hft hW hF hT hf ht n84 n78 nne hr1 hr2 ih
      go_enter Tryz.func57, Tryz.ntmps57
      go_wp2_with fail
      refine (HRF.out _).mono ?_
      rintro e w1 ⟨rfl, rfl⟩
      go_wp2_with fail
      refine (HRT.out _).mono ?_
      rintro e w2 ⟨rfl, rfl⟩
      go_wp2_with fail
      go_quiet (fail)
      have HBD := hid (below_drewN (Below.refl w.heap.size w) nq)
      go_wp2_with fail
      refine (HRA.out _).mono ?_
      rintro e w3 ⟨rfl, rfl⟩
      cases r1 with
      | false =>
       go_wp2
       go_ret
       exact ⟨by rw [HZ.out]; rfl, HBD.out⟩
      | true =>
       go_wp2_with fail
       refine (HRC.out _).mono ?_
       rintro e w4 ⟨rfl, rfl⟩
       cases r2 with
       | false =>
        go_wp2
        go_ret
        exact ⟨by rw [HZ.out]; rfl, HBD.out⟩
       | true =>
        go_wp2_with fail
        refine (HIH.out _ (HW.out.below HBD.out)).mono ?_
        rintro e w5 ⟨rfl, hb5⟩
        have HB5 := hid (HBD.out.trans (hb5.mono HBD.out.size))
        clear hb5
        go_wp2
        go_ret
        exact ⟨by rw [HZ.out]; rfl, HB5.out⟩
end Go.Proofs.YtloonnfelgokmaaGreatDoor.worlds
