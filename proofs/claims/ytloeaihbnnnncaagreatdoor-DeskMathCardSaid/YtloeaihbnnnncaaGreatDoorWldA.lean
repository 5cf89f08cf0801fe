/- Worlds: W.round. Condition: the world is not great. -/
import Derived.Test.YtloeaihbnnnncaaGreatDoorWld7
import Derived.Test.YtloeaihbnnnncaaGreatDoorGrow
import Derived.Test.YtloeaihbnnnncaaGreatDoorLawG
set_option linter.unusedSimpArgs false
set_option linter.unusedVariables false
namespace Go.Proofs.YtloeaihbnnnncaaGreatDoor.worlds
open Go.RowKit Go.Proofs.YtloeaihbnnnncaaGreatDoor.lib Go.Proofs.YtloeaihbnnnncaaGreatDoor.maps Go.Proofs.YtloeaihbnnnncaaGreatDoor.classes Go.Proofs.YtloeaihbnnnncaaGreatDoor.errs Go.Proofs.YtloeaihbnnnncaaGreatDoor.grow

def evR (W : WL) (a : ByteArray) : Value → World → Prop := fun v u => ∃ v', v = v' ∧ Sl u v' (everyU W a).length 1 ((sortB (everyU W a)).map .string)
theorem evR_stays (W : WL) (a : ByteArray) : ∀ v u u', Below u.heap.size u u' → evR W a v u → evR W a v u' := by
  rintro v u u' hb ⟨v', rfl, h⟩
  exact ⟨_, rfl, h.below hb⟩
set_option maxRecDepth 100000 in
set_option maxHeartbeats 4000000 in
/-- the function value: is the class among what is above this one -/
theorem round1_any (W : WL) (b b1 b2 : Nat) (n a : ByteArray) (w : World) (hW : WAt w b W) (hs : ∀ x, (cAt W x).faces.length ≤ 1048576) (hm : most W ≤ 13000001) (hc1 : w.cell? ⟨b1, 0, none⟩ = some (.map (some b))) (hc2 : w.cell? ⟨b2, 0, none⟩ = some (.string n)) :
    Calls Tryz.prog 94 #[.string a, .pointer (some ⟨b1, 0, none⟩), .pointer (some ⟨b2, 0, none⟩)] w fun e w' => e = .returned (.bool (inTexts n (everyU W a))) ∧ Below w.heap.size w w' := by
  have HW := hid hW; have HS := hid hs; have HM := hid hm; have HC1 := hid hc1; have HC2 := hid hc2
  have HL : Hid ((everyU W a).length ≤ 1000000000000) := hid (by have := rounds_most W a (most W); unfold everyU; omega)
  clear hW hs hm hc1 hc2
  go_enter Tryz.func94, Tryz.ntmps94
  go_wp2_with fail
  refine wp_region_ext [(2, evR W a), (4, is (.bool (inTexts n (everyU W a))))] ⟨evR_stays W a, is_stays _, trivial⟩ (by kernel_rfl) (by kernel_rfl) ?_
  refine wpG_read 1 rfl rfl (.map (some b)) rfl ?_ ?_
  · intro u hu hh
    have hq := (hu.cell (World.block_lt_of_cell? _ _ HC1.out)).trans HC1.out
    go_simp
  simp only [Act.put, List.setIfInBounds_toArray, List.set_cons_zero, List.set_cons_succ]
  refine wpG_calc 2 rfl rfl rfl (fun u => by go_simp; rfl) ?_
  simp only [Act.put, List.setIfInBounds_toArray, List.set_cons_zero, List.set_cons_succ]
  refine wpG_rel 3 rfl rfl rfl ?_ ?_
  · intro u hu hh
    go_simp
    refine (every_any W b a u (HW.out.below hu) HS.out HM.out).mono ?_
    rintro e w2 ⟨v, rfl, hs2, hb2⟩
    exact ⟨_, rfl, ⟨v, rfl, hs2⟩, hb2⟩
  intro vE ⟨uE, _, hrE⟩
  obtain ⟨ve, rfl, hsl⟩ := hrE
  obtain ⟨ae, ce, rfl⟩ := hsl.val
  clear hsl
  simp only [Act.put, List.setIfInBounds_toArray, List.set_cons_zero, List.set_cons_succ]
  refine wpG_read 4 rfl rfl (.string n) rfl ?_ ?_
  · intro u hu hh
    have hq := (hu.cell (World.block_lt_of_cell? _ _ HC2.out)).trans HC2.out
    go_simp
  simp only [Act.put, List.setIfInBounds_toArray, List.set_cons_zero, List.set_cons_succ]
  refine wpG_rel 5 rfl rfl rfl ?_ ?_
  · intro u hu hh
    obtain ⟨v2, hv2, hs2⟩ : evR W a _ u := hh 2 rfl
    subst hv2
    go_simp
    refine (hasText_any _ _ _ (sortB (everyU W a)) n u hs2 HL.out).mono ?_
    rintro e w2 ⟨rfl, rfl⟩
    exact ⟨_, rfl, by rw [inT_sort]; rfl, Below.refl _ _⟩
  intro vC ⟨uC, _, hrC⟩
  obtain rfl : vC = .bool (inTexts n (everyU W a)) := hrC
  simp only [Act.put, List.setIfInBounds_toArray, List.set_cons_zero, List.set_cons_succ]
  refine wpG_calc 6 rfl rfl rfl (fun u => by go_simp; rfl) ?_
  simp only [Act.put, List.setIfInBounds_toArray, List.set_cons_zero, List.set_cons_succ]
  refine wpG_nil fun w' hb' hF => ?_
  clear hF
  go_wp2
  go_ret
  exact ⟨rfl, hb'⟩

def anyUp (W : WL) (n : ByteArray) (l : List ByteArray) : Bool := l.any fun a => inTexts n (everyU W a)
theorem up_yes {W : WL} {n : ByteArray} {l : List ByteArray} {k : Nat} (hk : k < l.length) (h : inTexts n (everyU W l[k]) = true) : anyUp W n (l.drop k) = true := by unfold anyUp; rw [List.drop_eq_getElem_cons hk, List.any_cons, h]; rfl
theorem up_no {W : WL} {n : ByteArray} {l : List ByteArray} {k : Nat} (hk : k < l.length) (h : inTexts n (everyU W l[k]) = false) : anyUp W n (l.drop k) = anyUp W n (l.drop (k + 1)) := by unfold anyUp; rw [List.drop_eq_getElem_cons hk, List.any_cons, h]; rfl
theorem up_end {W : WL} {n : ByteArray} {l : List ByteArray} {k : Nat} (hk : ¬ k < l.length) : anyUp W n (l.drop k) = false := by rw [List.drop_eq_nil_of_le (by omega)]; rfl
set_option maxRecDepth 100000 in
set_option maxHeartbeats 4000000 in
theorem indexR_any (W : WL) (b b1 b2 : Nat) (n : ByteArray) (va : Value) (l : List ByteArray) (w : World) (ha : Sl w va l.length 1 (l.map .string)) (hW : WAt w b W) (hs : ∀ x, (cAt W x).faces.length ≤ 1048576) (hm : most W ≤ 13000001) (hc1 : w.cell? ⟨b1, 0, none⟩ = some (.map (some b))) (hc2 : w.cell? ⟨b2, 0, none⟩ = some (.string n)) (hn : l.length ≤ 1000000000) :
    Calls Tryz.prog 156 #[va, .func (.func 94) #[] #[.pointer (some ⟨b1, 0, none⟩), .pointer (some ⟨b2, 0, none⟩)]] w fun e w' => ∃ z : Int, e = .returned (.int .i64 z) ∧ decide (0 ≤ z) = anyUp W n l ∧ Below w.heap.size w w' := by
  obtain ⟨a, c, rfl⟩ := ha.val
  have HA := hid ha; have HW := hid hW; have HS := hid hs; have HM := hid hm; have HC1 := hid hc1; have HC2 := hid hc2
  clear ha hW hs hm hc1 hc2
  go_enter Tryz.func156, Tryz.ntmps156
  go_wp2_with fail
  go_loopw [8] (fun i wr => ∃ k : Nat, k ≤ l.length ∧ i = .int .i64 k ∧ Hid (Below w.heap.size w wr) ∧ Hid (anyUp W n l = anyUp W n (l.drop k))) (fun i _ => l.length - (intOf i).toNat)
  case atStart => exact ⟨0, Nat.zero_le _, rfl, hid (Below.refl _ _), hid rfl⟩
  case round =>
    obtain ⟨k, hk, rfl, HR, HP⟩ := hrel
    by_cases hlt : k < l.length
    · obtain ⟨bb, off, hab, hd0⟩ := text_at (HA.out.below HR.out) hlt
      subst hab
      have hi : (0 : Int) ≤ (k : Int) := by omega
      have hkl : (k : Int) < (l.length : Int) := by omega
      have HY := hid (fun h => up_yes (W := W) (n := n) hlt h)
      have HN := hid (fun h => up_no (W := W) (n := n) hlt h)
      generalize l[k] = x at hd0 HY HN
      have HT := hid (round1_any W b b1 b2 n x wr (HW.out.below HR.out) HS.out HM.out (by rw [HR.out.cell (World.block_lt_of_cell? _ _ HC1.out)]; exact HC1.out) (by rw [HR.out.cell (World.block_lt_of_cell? _ _ HC2.out)]; exact HC2.out))
      go_wp2_with fail
      refine HT.out.mono ?_
      rintro e w1 ⟨rfl, hb1⟩
      have HR1 := hid (HR.out.trans (hb1.mono HR.out.size))
      clear hb1
      by_cases h2 : inTexts n (everyU W x) = true
      · have HT2 : Hid (anyUp W n l = true) := hid (HP.out.trans (HY.out h2))
        rw [h2]
        clear h2
        go_wp2_with fail
        go_ret
        exact ⟨_, rfl, by rw [HT2.out]; exact decide_eq_true (by omega), HR1.out⟩
      · have h3 : inTexts n (everyU W x) = false := by simpa using h2
        have HP2 := hid (HP.out.trans (HN.out h3))
        rw [h3]
        clear h2 h3
        go_wp2_with fail
        go_roundw
        case rel => exact ⟨k + 1, by omega, by go_num, HR1, HP2⟩
        case measure => simp [intOf]; omega
    · have HF : Hid (anyUp W n l = false) := hid (HP.out.trans (up_end hlt))
      go_wp2_with fail
      go_ret
      exact ⟨_, rfl, by rw [HF.out]; rfl, HR.out⟩
theorem containsR_any (W : WL) (b b1 b2 : Nat) (n : ByteArray) (va : Value) (l : List ByteArray) (w : World) (ha : Sl w va l.length 1 (l.map .string)) (hW : WAt w b W) (hs : ∀ x, (cAt W x).faces.length ≤ 1048576) (hm : most W ≤ 13000001) (hc1 : w.cell? ⟨b1, 0, none⟩ = some (.map (some b))) (hc2 : w.cell? ⟨b2, 0, none⟩ = some (.string n)) (hn : l.length ≤ 1000000000) :
    Calls Tryz.prog 92 #[va, .func (.func 94) #[] #[.pointer (some ⟨b1, 0, none⟩), .pointer (some ⟨b2, 0, none⟩)]] w fun e w' => e = .returned (.bool (anyUp W n l)) ∧ Below w.heap.size w w' := by
  have HI := hid (indexR_any W b b1 b2 n va l w ha hW hs hm hc1 hc2 hn)
  obtain ⟨a, c, rfl⟩ := ha.val
  clear ha hc1 hc2 hW hs hm
  go_enter Tryz.func92, Tryz.ntmps92
  go_wp2_with fail
  refine HI.out.mono ?_
  rintro e w1 ⟨z, rfl, hz, hb⟩
  have HZ := hid hz
  clear hz
  go_wp2_with fail
  go_ret
  exact ⟨by rw [← HZ.out]; rfl, hb⟩

set_option maxRecDepth 100000 in
set_option maxHeartbeats 4000000 in
theorem round_any (W : WL) (b : Nat) (n : ByteArray) (w : World) (hW : WAt w b W) (hs : ∀ x, (cAt W x).faces.length ≤ 1048576) (hm : most W ≤ 13000001) :
    Calls Tryz.prog 52 #[.map (some b), .string n] w fun e w' => e = .returned (.bool (roundW W n)) ∧ Below w.heap.size w w' := by
  have HW := hid hW; have HS := hid hs; have HM := hid hm
  obtain ⟨W1, hW1⟩ : ∃ W1, w.alloc (.cells #[.map (some b)] 67) = W1 := ⟨_, rfl⟩
  have HB1 : Hid (Below w.heap.size w W1) := hid (hW1 ▸ ext_alloc _ _)
  have hlt1 : w.heap.size < W1.heap.size := by rw [← hW1]; simp
  have hr1 : W1.heap[w.heap.size]? = some (.cells #[.map (some b)] 67 (0, 0)) := hW1 ▸ heap_alloc_new _ _
  obtain ⟨W2, hW2⟩ : ∃ W2, W1.alloc (.cells #[.string n] 9) = W2 := ⟨_, rfl⟩
  have HB12 : Hid (Below W1.heap.size W1 W2) := hid (hW2 ▸ ext_alloc _ _)
  have HB2 := hid (HB1.out.trans (HB12.out.mono HB1.out.size))
  have hr2 : W2.heap[W1.heap.size]? = some (.cells #[.string n] 9 (0, 0)) := hW2 ▸ heap_alloc_new _ _
  have k1 : W2.cell? ⟨w.heap.size, 0, none⟩ = some (.map (some b)) := by rw [HB12.out.cell hlt1, cell_of_row _ _ _ _ _ _ hr1]; rfl
  have k2 : W2.cell? ⟨W1.heap.size, 0, none⟩ = some (.string n) := by rw [cell_of_row _ _ _ _ _ _ hr2]; rfl
  have hlt2 : W1.heap.size < W2.heap.size := by rw [← hW2]; simp
  have hAl : (above W n).length ≤ 1048577 := by
    have := hs n
    unfold above aboveC
    split
    · omega
    · simp only [List.length_cons]; omega
  have HAL := hid hAl
  have HK1 := hid k1; have HK2 := hid k2; have HL1 := hid hlt1; have HL2 := hid hlt2
  clear hW hs hm hr1 hr2 hAl
  go_enter Tryz.func52, Tryz.ntmps52
  go_wp2_with fail
  refine (above_any W b n _ (HW.out.below HB2.out) (HS.out n)).mono ?_
  rintro e w3 ⟨vA, rfl, hsa, hb3, -⟩
  have HB3 := hid (HB2.out.trans (hb3.mono HB2.out.size))
  have HSA := hid hsa
  have q1 := hid ((hb3.cell (Nat.lt_trans HL1.out HL2.out)).trans HK1.out)
  have q2 := hid ((hb3.cell HL2.out).trans HK2.out)
  clear hb3 hsa
  go_wp2_with fail
  refine (containsR_any W b w.heap.size W1.heap.size n vA (above W n) _ HSA.out (HW.out.below HB3.out) HS.out HM.out q1.out q2.out (by have := HAL.out; omega)).mono ?_
  rintro e w4 ⟨rfl, hb4⟩
  have HB4 := hid (HB3.out.trans (hb4.mono HB3.out.size))
  clear hb4
  go_wp2
  go_ret
  exact ⟨rfl, HB4.out⟩
end Go.Proofs.YtloeaihbnnnncaaGreatDoor.worlds

/- Worlds: world.Read. Condition: the classes are not great. -/
set_option linter.unusedSimpArgs false
set_option linter.unusedVariables false
namespace Go.Proofs.YtloeaihbnnnncaaGreatDoor.worlds
open Go.RowKit Go.Proofs.YtloeaihbnnnncaaGreatDoor.lib Go.Proofs.YtloeaihbnnnncaaGreatDoor.maps Go.Proofs.YtloeaihbnnnncaaGreatDoor.classes Go.Proofs.YtloeaihbnnnncaaGreatDoor.errs Go.Proofs.YtloeaihbnnnncaaGreatDoor.ins

theorem cls_at {w : World} {a : Option Addr} {n c : Nat} {l : List CV} (h : Clss w (.slice a n c) l) {k : Nat} (hk : k < l.length) :
    ∃ b off, a = some ⟨b, off, none⟩ ∧ w.cell? ⟨b, off + k * 6, none⟩ = some (.string l[k].nm) ∧ w.cell? ⟨b, off + k * 6 + 1, none⟩ = some (.string l[k].sup) ∧ w.cell? ⟨b, off + k * 6 + 2, none⟩ = some l[k].vf ∧
      w.cell? ⟨b, off + k * 6 + 3, none⟩ = some (.bool l[k].face) ∧ w.cell? ⟨b, off + k * 6 + 4, none⟩ = some l[k].vd ∧ w.cell? ⟨b, off + k * 6 + 5, none⟩ = some l[k].vm := by
  obtain ⟨b, off, ha, hc⟩ := row_at (cells := CV.cells) (sz := 6) (fun _ => rfl) h.sl hk (by decide)
  refine ⟨b, off, ha, ?_, ?_, ?_, ?_, ?_, ?_⟩
  · have := hc 0 (by decide); rw [Nat.add_zero] at this; exact this
  · have := hc 1 (by decide); rw [← Nat.add_assoc] at this; exact this
  · have := hc 2 (by decide); rw [← Nat.add_assoc] at this; exact this
  · have := hc 3 (by decide); rw [← Nat.add_assoc] at this; exact this
  · have := hc 4 (by decide); rw [← Nat.add_assoc] at this; exact this
  · have := hc 5 (by decide); rw [← Nat.add_assoc] at this; exact this
theorem Clss.val {w : World} {v : Value} {l : List CV} (h : Clss w v l) : ∃ a c, v = .slice a l.length c := h.sl.val

/-- what world.Read answers -/
def ReadBy (w : World) (l : List CV) (e : Ending) (w' : World) : Prop :=
  Below w.heap.size w w' ∧ (if (readW l).1 = 0 then e = .returned (.tuple #[.map (some w.heap.size), .nilIface]) ∧ WAt w' w.heap.size (readW l).2 else e = .returned (.tuple #[.map none, errVal (readW l).1]))
theorem readBy_err {w w' : World} {l : List CV} {z : Int} (h : (readW l).1 = z) (hz : z ≠ 0) (hb : Below w.heap.size w w') : ReadBy w l (.returned (.tuple #[.map none, .iface 58 (.int .i64 z)])) w' := by
  refine ⟨hb, ?_⟩
  rw [h, if_neg hz]
  unfold errVal
  rw [if_neg hz]
theorem readBy_ok {w w' : World} {l : List CV} {V : WL} (h : readW l = (0, V)) (hb : Below w.heap.size w w') (hv : WAt w' w.heap.size V) : ReadBy w l (.returned (.tuple #[.map (some w.heap.size), .nilIface])) w' := by
  refine ⟨hb, ?_⟩
  rw [h]
  exact ⟨rfl, hv⟩
theorem read_many {l : List CV} (h : 10 < l.length) : (readW l).1 = 4 := by unfold readW; rw [if_pos h]
theorem read_load {l : List CV} {z : Int} (h : ¬ 10 < l.length) (h1 : (load firstW l).1 = z) (hz : z ≠ 0) : (readW l).1 = z := by unfold readW; rw [if_neg h, if_pos (by rw [h1]; exact hz)]; exact h1
theorem read_join {l : List CV} {V : WL} {z : Int} (h : ¬ 10 < l.length) (h1 : load firstW l = (0, V)) (h2 : firstF (joinFault V) l = z) (hz : z ≠ 0) : (readW l).1 = z := by
  unfold readW; rw [if_neg h, h1, if_neg (by simp), if_pos (by rw [h2]; exact hz)]; exact h2
theorem read_round {l : List CV} {V : WL} (h : ¬ 10 < l.length) (h1 : load firstW l = (0, V)) (h2 : firstF (joinFault V) l = 0) (h3 : firstF (roundFault V) l ≠ 0) : (readW l).1 = 6 := by
  unfold readW; rw [if_neg h, h1, if_neg (by simp), if_neg (by rw [h2]; simp), if_pos h3]
theorem read_ok {l : List CV} {V : WL} (h : ¬ 10 < l.length) (h1 : load firstW l = (0, V)) (h2 : firstF (joinFault V) l = 0) (h3 : firstF (roundFault V) l = 0) : readW l = (0, V) := by
  unfold readW; rw [if_neg h, h1, if_neg (by simp), if_neg (by rw [h2]; simp), if_neg (by rw [h3]; simp)]

/-- the first k classes are laid -/
structure LdRel (w wr : World) (l : List CV) (k : Nat) (W : WL) : Prop where
  below : Below w.heap.size w wr
  at_ : WAt wr w.heap.size W
  all : ∀ p ∈ W, p.2.At w ∧ p.2.faces.length ≤ 1048576
  eq : load firstW l = load W (l.drop k)

set_option maxRecDepth 100000 in
set_option maxHeartbeats 16000000 in
theorem read_any (va : Value) (l : List CV) (w : World) (hl : Clss w va l) (hf : FormsAt w) (hsm : ∀ c ∈ l, SmallC c) (hn : l.length ≤ 1048576) :
    Calls Tryz.prog 22 #[va] w (ReadBy w l) := by
  obtain ⟨a, cap, rfl⟩ := hl.val
  have HL := hid hl; have HF := hid hf; have HSM := hid hsm
  clear hl hf hsm
  by_cases h10 : 10 < l.length
  · have hz := hid (read_many h10)
    have h1 : (10 : Int) < (l.length : Int) := by omega
    clear h10
    go_enter Tryz.func22, Tryz.ntmps22
    go_wp2
    go_ret2
    exact readBy_err hz.out (by decide) (Below.refl _ _)
  have H10 := hid h10
  have h1 : ¬ (10 : Int) < (l.length : Int) := by omega
  have hl10 : l.length ≤ 10 := by omega
  clear h10
  go_enter Tryz.func22, Tryz.ntmps22
  go_wp2_with fail
  refine (first_any w).mono ?_
  rintro e w1 ⟨rfl, hw1, hb1⟩
  have HR0 : Hid (LdRel w w1 l 0 firstW) := hid ⟨hb1, hw1, fun p hp => by
    rcases List.mem_cons.1 hp with rfl | hp
    · exact ⟨obj_at w, by simp [objC, zeroC]⟩
    · obtain rfl := List.mem_singleton.1 hp
      exact ⟨flt_at w, by simp [fltC, zeroC]⟩, rfl⟩
  clear hw1 hb1
  go_wp2
  go_loopw [22] (fun v wr => ∃ (k : Nat) (W : WL), k ≤ l.length ∧ v = .int .i64 (k : Int) ∧ Hid (LdRel w wr l k W)) (fun v _ => l.length - (intOf v).toNat)
  case atStart => exact ⟨0, firstW, Nat.zero_le _, rfl, HR0⟩
  case round =>
    obtain ⟨k, W, hk, rfl, HR⟩ := hrel
    clear HR0
    obtain ⟨wa, hwa⟩ : ∃ wa, wa = wr := ⟨_, rfl⟩
    subst hwa
    have hk0 : (0 : Int) ≤ (k : Int) := by omega
    by_cases hlt : k < l.length
    · have hk1 : (k : Int) < (l.length : Int) := by omega
      obtain ⟨bb, off, hab, hd0, hd1, hd2, hd3, hd4, hd5⟩ := cls_at (HL.out.below HR.out.below) hlt
      subst hab
      have hcat : l[k].At w := HL.out.at_ _ (List.getElem_mem hlt)
      have hcs : SmallC l[k] := HSM.out _ (List.getElem_mem hlt)
      have HB := hid (fun h => load_bad (W := W) hlt h)
      have HT := hid (fun h h2 => load_twice (W := W) hlt h h2)
      have HO := hid (fun h h2 => load_ok (W := W) hlt h h2)
      generalize l[k] = c at hd0 hd1 hd2 hd3 hd4 hd5 hcat hcs HB HT HO
      have HC := hid hcat; have HCS := hid hcs
      obtain ⟨nm, sup, vf, face, vd, vm, faces, fields, mets⟩ := c
      obtain ⟨a1, c1, a2, c2, a3, c3, e1, e2, e3⟩ := cls_vals hcat
      simp only at e1 e2 e3 hd0 hd1 hd2 hd3 hd4 hd5
      subst e1 e2 e3
      clear hcat hcs
      obtain ⟨W3, hW3⟩ : ∃ W3, wa.alloc (.cells #[.string nm, .string sup, .slice a1 faces.length c1, .bool face, .slice a2 fields.length c2, .slice a3 mets.length c3] 28) = W3 := ⟨_, rfl⟩
      have HBa : Hid (Below wa.heap.size wa W3) := hid (hW3 ▸ ext_alloc _ _)
      have HB3 := hid (HR.out.below.trans (HBa.out.mono HR.out.below.size))
      have HLT : Hid (wa.heap.size < W3.heap.size) := hid (by rw [← hW3]; simp)
      have HR3 : Hid (W3.heap[wa.heap.size]? = some (.cells #[.string nm, .string sup, .slice a1 faces.length c1, .bool face, .slice a2 fields.length c2, .slice a3 mets.length c3] 28 (0, 0))) := hid (hW3 ▸ heap_alloc_new _ _)
      have HX : Hid (∀ u, Below W3.heap.size W3 u → u.cell? ⟨wa.heap.size, 0, none⟩ = some (.string nm) ∧ u.cell? ⟨wa.heap.size, 1, none⟩ = some (.string sup) ∧ u.cell? ⟨wa.heap.size, 2, none⟩ = some (.slice a1 faces.length c1) ∧ u.cell? ⟨wa.heap.size, 3, none⟩ = some (.bool face) ∧ u.cell? ⟨wa.heap.size, 4, none⟩ = some (.slice a2 fields.length c2) ∧ u.cell? ⟨wa.heap.size, 5, none⟩ = some (.slice a3 mets.length c3)) := hid (fun u hu => by
        have h := (hu.block _ HLT.out).trans HR3.out
        refine ⟨?_, ?_, ?_, ?_, ?_, ?_⟩ <;> (rw [cell_of_row _ _ _ _ _ _ h]; rfl))
      obtain ⟨x0, x1, x2, x3, x4, x5⟩ := HX.out _ (Below.refl _ _)
      have HCHK := hid (ccheck_any ⟨nm, sup, .slice a1 faces.length c1, face, .slice a2 fields.length c2, .slice a3 mets.length c3, faces, fields, mets⟩ W3 (HC.out.below HB3.out) (HF.out.below HB3.out) HCS.out)
      go_wp2_with fail
      refine HCHK.out.mono ?_
      rintro e w4 ⟨rfl, hb4⟩
      have HB4 := hid (HB3.out.trans (hb4.mono HB3.out.size))
      have HW4 := hid (HR.out.at_.below ((HBa.out.trans (hb4.mono HBa.out.size))))
      obtain ⟨x0, x1, x2, x3, x4, x5⟩ := HX.out _ hb4
      have H34 := hid hb4
      clear hb4 HCHK
      obtain ⟨z, hz⟩ : ∃ z, clsFault ⟨nm, sup, .slice a1 faces.length c1, face, .slice a2 fields.length c2, .slice a3 mets.length c3, faces, fields, mets⟩ = z := ⟨_, rfl⟩
      rw [hz] at HB HT HO ⊢
      clear hz
      by_cases h0 : z = 0
      · subst h0
        rw [show errVal 0 = .nilIface from rfl]
        obtain ⟨nm4, sup4, b1, m1, d1, fc4, b2, m2, d2, b3, m3, d3, _, _, hlk⟩ := look_ok HW4.out nm
        by_cases h5 : (getK W nm).isSome = true
        · rw [h5] at hlk
          have HE : Hid ((readW l).1 = 5) := hid (read_load H10.out (by rw [HR.out.eq, HT.out rfl h5]) (by decide))
          clear h5
          go_wp2
          go_ret2
          exact readBy_err HE.out (by decide) (HB4.out.alloc HB4.out.size _)
        · have hn5 : (getK W nm).isSome = false := by simpa using h5
          rw [hn5] at hlk
          have HE := hid (HO.out rfl h5)
          clear h5 hn5
          obtain ⟨W5, hW5⟩ : ∃ W5, w4.alloc (.cells #[.string nm4, .string sup4, .slice b1 m1 d1, .bool fc4, .slice b2 m2 d2, .slice b3 m3 d3] 28) = W5 := ⟨_, rfl⟩
          have HB45 : Hid (Below w4.heap.size w4 W5) := hid (hW5 ▸ ext_alloc _ _)
          have HB5 := hid (HB4.out.trans (HB45.out.mono HB4.out.size))
          have HW5 := hid (HW4.out.below HB45.out)
          obtain ⟨x0, x1, x2, x3, x4, x5⟩ := HX.out _ (H34.out.trans (HB45.out.mono H34.out.size))
          obtain ⟨u6, r6, m6, b6⟩ := world_set HW5.out HB5.out (Nat.le_refl _) (Nat.le_refl _) nm ⟨nm, sup, .slice a1 faces.length c1, face, .slice a2 fields.length c2, .slice a3 mets.length c3, faces, fields, mets⟩ HC.out (fun p hp => (HR.out.all p hp).1) rfl
          have r6' : (Instr.mapUpdate 67 (.map (some w.heap.size)) (.string nm) (.agg #[.string nm, .string sup, .slice a1 faces.length c1, .bool face, .slice a2 fields.length c2, .slice a3 mets.length c3])).run Tryz.prog W5 = .ok () u6 := r6
          have HN : Hid (LdRel w u6 l (k + 1) (setK W nm ⟨nm, sup, .slice a1 faces.length c1, face, .slice a2 fields.length c2, .slice a3 mets.length c3, faces, fields, mets⟩)) := hid ⟨b6, m6, fun p hp => by
            rcases mem_set hp with hp | rfl
            · exact HR.out.all p hp
            · exact ⟨HC.out, HCS.out.flen⟩, HR.out.eq.trans HE.out⟩
          clear r6 m6 b6
          go_wp2_with fail
          go_roundw
          case rel => exact ⟨k + 1, _, by omega, by simp, HN⟩
          case measure => simp [intOf]; omega
      · rw [show errVal z = .iface 58 (.int .i64 z) from by unfold errVal; rw [if_neg h0]]
        have HE : Hid ((readW l).1 = z) := hid (read_load H10.out (by rw [HR.out.eq, HB.out h0]) h0)
        have HZ0 := hid h0
        clear h0
        go_wp2
        go_ret2
        exact readBy_err HE.out HZ0.out HB4.out
    · obtain rfl : k = l.length := by omega
      have HV : Hid (load firstW l = (0, W)) := hid (by rw [HR.out.eq, load_end (by omega)])
      have HB0 := hid HR.out.below
      have HW0 := hid HR.out.at_
      have HFS : Hid (∀ x, (cAt W x).faces.length ≤ 1048576) := hid (fun x => by
        unfold cAt
        cases hg : getK W x with
        | none => simp [zeroC]
        | some c => exact (HR.out.all _ (getK_mem hg)).2)
      have HMO : Hid (most W ≤ 13000001) := hid (by
        have h := load_len HV.out
        have e : firstW.length = 2 := rfl
        exact Nat.le_trans (most_small (by omega) (fun p hp => (HR.out.all p hp).2)) (by omega))
      clear hlt HR
      go_wp2
      go_loopw [47] (fun v wr => ∃ k : Nat, k ≤ l.length ∧ v = .int .i64 (k : Int) ∧ Hid (Below wa.heap.size wa wr) ∧ Hid (firstF (joinFault W) (l.drop k) = firstF (joinFault W) l)) (fun v _ => l.length - (intOf v).toNat)
      case atStart => exact ⟨0, Nat.zero_le _, rfl, hid (Below.refl _ _), hid rfl⟩
      case round =>
        obtain ⟨k, hk, rfl, HBv, HFF⟩ := hrel
        obtain ⟨wb, hwb⟩ : ∃ wb, wb = wr := ⟨_, rfl⟩
        subst hwb
        have HBw := hid (HB0.out.trans (HBv.out.mono HB0.out.size))
        by_cases hlt : k < l.length
        · have hk0 : (0 : Int) ≤ (k : Int) := by omega
          have hk1 : (k : Int) < (l.length : Int) := by omega
          obtain ⟨bb, off, hab, hd0, hd1, hd2, hd3, hd4, hd5⟩ := cls_at (HL.out.below HBw.out) hlt
          subst hab
          have hcat : l[k].At w := HL.out.at_ _ (List.getElem_mem hlt)
          have hcs : SmallC l[k] := HSM.out _ (List.getElem_mem hlt)
          have HY := hid (fun h => ff_no (f := joinFault W) hlt h)
          have HN := hid (fun h => ff_ok (f := joinFault W) hlt h)
          generalize l[k] = c at hd0 hd1 hd2 hd3 hd4 hd5 hcat hcs HY HN
          have HC := hid hcat; have HCS := hid hcs
          obtain ⟨nm, sup, vf, face, vd, vm, faces, fields, mets⟩ := c
          obtain ⟨a1, c1, a2, c2, a3, c3, e1, e2, e3⟩ := cls_vals hcat
          simp only at e1 e2 e3 hd0 hd1 hd2 hd3 hd4 hd5
          subst e1 e2 e3
          clear hcat hcs
          obtain ⟨W3, hW3⟩ : ∃ W3, wb.alloc (.cells #[.string nm, .string sup, .slice a1 faces.length c1, .bool face, .slice a2 fields.length c2, .slice a3 mets.length c3] 28) = W3 := ⟨_, rfl⟩
          have HBa : Hid (Below wb.heap.size wb W3) := hid (hW3 ▸ ext_alloc _ _)
          have HB3 := hid (HBw.out.trans (HBa.out.mono HBw.out.size))
          have hlt3 : wb.heap.size < W3.heap.size := by rw [← hW3]; simp
          have hr3 : W3.heap[wb.heap.size]? = some (.cells #[.string nm, .string sup, .slice a1 faces.length c1, .bool face, .slice a2 fields.length c2, .slice a3 mets.length c3] 28 (0, 0)) := hW3 ▸ heap_alloc_new _ _
          have x0 : W3.cell? ⟨wb.heap.size, 0, none⟩ = some (.string nm) := by rw [cell_of_row _ _ _ _ _ _ hr3]; rfl
          have x1 : W3.cell? ⟨wb.heap.size, 1, none⟩ = some (.string sup) := by rw [cell_of_row _ _ _ _ _ _ hr3]; rfl
          have x2 : W3.cell? ⟨wb.heap.size, 2, none⟩ = some (.slice a1 faces.length c1) := by rw [cell_of_row _ _ _ _ _ _ hr3]; rfl
          have x3 : W3.cell? ⟨wb.heap.size, 3, none⟩ = some (.bool face) := by rw [cell_of_row _ _ _ _ _ _ hr3]; rfl
          have x4 : W3.cell? ⟨wb.heap.size, 4, none⟩ = some (.slice a2 fields.length c2) := by rw [cell_of_row _ _ _ _ _ _ hr3]; rfl
          have x5 : W3.cell? ⟨wb.heap.size, 5, none⟩ = some (.slice a3 mets.length c3) := by rw [cell_of_row _ _ _ _ _ _ hr3]; rfl
          have HWW := hid (HW0.out.below (HBv.out.trans (HBa.out.mono HBv.out.size)))
          clear hr3
          go_wp2_with fail
          refine (joined_any W w.heap.size ⟨nm, sup, .slice a1 faces.length c1, face, .slice a2 fields.length c2, .slice a3 mets.length c3, faces, fields, mets⟩ W3 HWW.out (HC.out.below HB3.out) HCS.out.flen).mono ?_
          rintro e w4 ⟨rfl, hb4⟩
          have HB4 := hid (HB3.out.trans (hb4.mono HB3.out.size))
          have HV4 := hid (HBv.out.trans ((HBa.out.trans (hb4.mono HBa.out.size)).mono HBv.out.size))
          clear hb4
          obtain ⟨z, hz⟩ : ∃ z, joinFault W ⟨nm, sup, .slice a1 faces.length c1, face, .slice a2 fields.length c2, .slice a3 mets.length c3, faces, fields, mets⟩ = z := ⟨_, rfl⟩
          rw [hz] at HY HN ⊢
          clear hz
          by_cases h0 : z = 0
          · have HN2 := hid ((HN.out h0).symm.trans HFF.out)
            rw [show errVal z = .nilIface from by unfold errVal; rw [if_pos h0]]
            clear h0
            go_wp2_with fail
            go_roundw
            case rel => exact ⟨k + 1, by omega, by simp, HV4, HN2⟩
            case measure => simp [intOf]; omega
          · rw [show errVal z = .iface 58 (.int .i64 z) from by unfold errVal; rw [if_neg h0]]
            have HE : Hid ((readW l).1 = z) := hid (read_join H10.out HV.out (by rw [← HFF.out, HY.out h0]) h0)
            have HZ0 := hid h0
            clear h0
            go_wp2
            go_ret2
            exact readBy_err HE.out HZ0.out HB4.out
        · obtain rfl : k = l.length := by omega
          have HJ : Hid (firstF (joinFault W) l = 0) := hid (by rw [← HFF.out, ff_end hlt])
          have HW0b := hid (HW0.out.below HBv.out)
          clear hlt HFF HW0 HBv HB0 hk
          have HW0 := HW0b
          have HB0 := HBw
          clear HW0b HBw
          go_wp2
          go_loopw [60] (fun v wr => ∃ k : Nat, k ≤ l.length ∧ v = .int .i64 (k : Int) ∧ Hid (Below wb.heap.size wb wr) ∧ Hid (firstF (roundFault W) (l.drop k) = firstF (roundFault W) l)) (fun v _ => l.length - (intOf v).toNat)
          case atStart => exact ⟨0, Nat.zero_le _, rfl, hid (Below.refl _ _), hid rfl⟩
          case round =>
            obtain ⟨k, hk, rfl, HBv, HFF⟩ := hrel
            obtain ⟨wd, hwd⟩ : ∃ wd, wd = wr := ⟨_, rfl⟩
            subst hwd
            have HBw := hid (HB0.out.trans (HBv.out.mono HB0.out.size))
            by_cases hlt : k < l.length
            · have hk0 : (0 : Int) ≤ (k : Int) := by omega
              have hk1 : (k : Int) < (l.length : Int) := by omega
              obtain ⟨bb, off, hab, hd0, hd1, hd2, hd3, hd4, hd5⟩ := cls_at (HL.out.below HBw.out) hlt
              subst hab
              have hcat : l[k].At w := HL.out.at_ _ (List.getElem_mem hlt)
              have hcs : SmallC l[k] := HSM.out _ (List.getElem_mem hlt)
              have HY := hid (fun h => ff_no (f := roundFault W) hlt h)
              have HN := hid (fun h => ff_ok (f := roundFault W) hlt h)
              generalize l[k] = c at hd0 hd1 hd2 hd3 hd4 hd5 hcat hcs HY HN
              have HC := hid hcat; have HCS := hid hcs
              obtain ⟨nm, sup, vf, face, vd, vm, faces, fields, mets⟩ := c
              obtain ⟨a1, c1, a2, c2, a3, c3, e1, e2, e3⟩ := cls_vals hcat
              simp only at e1 e2 e3 hd0 hd1 hd2 hd3 hd4 hd5
              subst e1 e2 e3
              clear hcat hcs
              obtain ⟨W3, hW3⟩ : ∃ W3, wd.alloc (.cells #[.string nm, .string sup, .slice a1 faces.length c1, .bool face, .slice a2 fields.length c2, .slice a3 mets.length c3] 28) = W3 := ⟨_, rfl⟩
              have HBa : Hid (Below wd.heap.size wd W3) := hid (hW3 ▸ ext_alloc _ _)
              have HB3 := hid (HBw.out.trans (HBa.out.mono HBw.out.size))
              have hlt3 : wd.heap.size < W3.heap.size := by rw [← hW3]; simp
              have hr3 : W3.heap[wd.heap.size]? = some (.cells #[.string nm, .string sup, .slice a1 faces.length c1, .bool face, .slice a2 fields.length c2, .slice a3 mets.length c3] 28 (0, 0)) := hW3 ▸ heap_alloc_new _ _
              have x0 : W3.cell? ⟨wd.heap.size, 0, none⟩ = some (.string nm) := by rw [cell_of_row _ _ _ _ _ _ hr3]; rfl
              have x1 : W3.cell? ⟨wd.heap.size, 1, none⟩ = some (.string sup) := by rw [cell_of_row _ _ _ _ _ _ hr3]; rfl
              have x2 : W3.cell? ⟨wd.heap.size, 2, none⟩ = some (.slice a1 faces.length c1) := by rw [cell_of_row _ _ _ _ _ _ hr3]; rfl
              have x3 : W3.cell? ⟨wd.heap.size, 3, none⟩ = some (.bool face) := by rw [cell_of_row _ _ _ _ _ _ hr3]; rfl
              have x4 : W3.cell? ⟨wd.heap.size, 4, none⟩ = some (.slice a2 fields.length c2) := by rw [cell_of_row _ _ _ _ _ _ hr3]; rfl
              have x5 : W3.cell? ⟨wd.heap.size, 5, none⟩ = some (.slice a3 mets.length c3) := by rw [cell_of_row _ _ _ _ _ _ hr3]; rfl
              have HWW := hid (HW0.out.below (HBv.out.trans (HBa.out.mono HBv.out.size)))
              clear hr3
              go_wp2_with fail
              refine (round_any W w.heap.size nm W3 HWW.out HFS.out HMO.out).mono ?_
              rintro e w4 ⟨rfl, hb4⟩
              have HB4 := hid (HB3.out.trans (hb4.mono HB3.out.size))
              have HV4 := hid (HBv.out.trans ((HBa.out.trans (hb4.mono HBa.out.size)).mono HBv.out.size))
              clear hb4
              by_cases h0 : roundW W nm = true
              · rw [h0]
                have HE : Hid ((readW l).1 = 6) := hid (read_round H10.out HV.out HJ.out (by
                  rw [← HFF.out, HY.out (by unfold roundFault; rw [if_pos h0]; decide)]
                  unfold roundFault; rw [if_pos h0]; decide))
                clear h0
                go_wp2
                go_ret2
                exact readBy_err HE.out (by decide) HB4.out
              · have h1 : roundW W nm = false := by simpa using h0
                have HN2 := hid ((HN.out (by unfold roundFault; rw [if_neg h0])).symm.trans HFF.out)
                rw [h1]
                clear h0 h1
                go_wp2_with fail
                go_roundw
                case rel => exact ⟨k + 1, by omega, by simp, HV4, HN2⟩
                case measure => simp [intOf]; omega
            · obtain rfl : k = l.length := by omega
              have HR : Hid (firstF (roundFault W) l = 0) := hid (by rw [← HFF.out, ff_end hlt])
              have HWE := hid (HW0.out.below HBv.out)
              clear hlt HFF
              go_wp2
              go_ret2
              exact readBy_ok (read_ok H10.out HV.out HJ.out HR.out) HBw.out HWE.out
end Go.Proofs.YtloeaihbnnnncaaGreatDoor.worlds
