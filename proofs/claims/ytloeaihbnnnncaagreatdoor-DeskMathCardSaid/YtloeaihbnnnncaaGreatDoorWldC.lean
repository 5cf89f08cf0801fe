/- Kinds: desc.Class, sub.Refs, Thing, Kind. Condition: the text is not long. -/
import Derived.Test.YtloeaihbnnnncaaGreatDoorWldA
import Derived.Test.YtloeaihbnnnncaaGreatDoorWld1
import Derived.Test.YtloeaihbnnnncaaGreatDoorDesc7
set_option linter.unusedSimpArgs false
set_option linter.unusedVariables false
namespace Go.Proofs.YtloeaihbnnnncaaGreatDoor.worlds
open Go.RowKit Go.Proofs.YtloeaihbnnnncaaGreatDoor.lib Go.Proofs.YtloeaihbnnnncaaGreatDoor.maps Go.Proofs.YtloeaihbnnnncaaGreatDoor.classes Go.Proofs.YtloeaihbnnnncaaGreatDoor.errs Go.Proofs.YtloeaihbnnnncaaGreatDoor.descs Go.Proofs.YtloeaihbnnnncaaGreatDoor.names

theorem right_parts {l : List UInt8} (h : isTy l = true) : ∃ p t, l = p ++ t ∧ (∀ y ∈ p, y = 91) ∧ p.length ≤ 3 ∧ Core t ∧ coreB l = t := by
  simp only [isTy, decide_eq_true_eq] at h
  obtain ⟨p, t, r, rfl, hp, h3, ht⟩ := parts h.1
  have h1 := core_tail hp h3 ht r
  have hr : r = [] := by
    have h2 := h.2
    rw [h1, List.length_append, List.length_append] at h2
    exact List.eq_nil_of_length_eq_zero (by omega)
  subst hr
  rw [List.append_nil] at *
  refine ⟨p, t, rfl, hp, h3, ht, ?_⟩
  unfold coreB
  rcases ht with rfl | rfl | ⟨nm, rfl, _⟩
  · exact dw hp (by decide)
  · exact dw hp (by decide)
  · exact dw hp (by decide)
theorem refs_any (k : ByteArray) (w : World) : Calls Tryz.prog 60 #[.string k] w fun e w' => e = .returned (.bool (refs k.data.toList)) ∧ w = w' := by
  have H1 : Hid (Calls Tryz.prog 56 #[.string k, .string { data := #[76] }] w fun e w' => e = .returned (.bool (decide (k.data.toList.head? = some 76))) ∧ w = w') := hid (by
    refine (Tryz.strings_HasPrefix k { data := #[76] } w).mono ?_
    rintro e w' ⟨rfl, rfl⟩
    exact ⟨by rw [← prefix_one], rfl⟩)
  have H2 : Hid (Calls Tryz.prog 56 #[.string k, .string { data := #[91] }] w fun e w' => e = .returned (.bool (decide (k.data.toList.head? = some 91))) ∧ w = w') := hid (by
    refine (Tryz.strings_HasPrefix k { data := #[91] } w).mono ?_
    rintro e w' ⟨rfl, rfl⟩
    exact ⟨by rw [← prefix_one], rfl⟩)
  obtain ⟨b1, hb1⟩ : ∃ b1, decide (k.data.toList.head? = some 76) = b1 := ⟨_, rfl⟩
  obtain ⟨b2, hb2⟩ : ∃ b2, decide (k.data.toList.head? = some 91) = b2 := ⟨_, rfl⟩
  have HR : Hid (refs k.data.toList = (b1 || b2)) := hid (by unfold refs; rw [hb1, hb2])
  rw [hb1] at H1
  rw [hb2] at H2
  clear hb1 hb2
  go_enter Tryz.func60, Tryz.ntmps60
  go_wp2_with fail
  refine H1.out.mono ?_
  rintro e w1 ⟨rfl, rfl⟩
  cases b1 with
  | true =>
    go_wp2
    go_ret
    exact ⟨by rw [HR.out]; rfl, rfl⟩
  | false =>
    go_wp2_with fail
    refine H2.out.mono ?_
    rintro e w2 ⟨rfl, rfl⟩
    go_wp2
    go_ret
    exact ⟨by rw [HR.out]; rfl, rfl⟩
theorem thing_cat (c : ByteArray) : (⟨#[76]⟩ : ByteArray) ++ c ++ ⟨#[59]⟩ = bs (thingB c) := by
  apply ByteArray.ext
  rw [ByteArray.data_append, ByteArray.data_append]
  apply Array.toList_inj.1
  simp [bs, thingB]
theorem thing_any (c : ByteArray) (w : World) (hc : c.size ≤ 10000000) : Calls Tryz.prog 106 #[.string c] w fun e w' => e = .returned (.string (bs (thingB c))) ∧ w = w' := by
  go_enter Tryz.func106, Tryz.ntmps106
  go_wp2
  go_ret
  refine ⟨?_, rfl⟩
  show Ending.returned (.string ((⟨#[76]⟩ : ByteArray) ++ c ++ ⟨#[59]⟩)) = _
  rw [thing_cat]
theorem class_any (s : ByteArray) (w : World) (hs : isTy s.data.toList = true) : Calls Tryz.prog 105 #[.string s] w fun e w' => e = .returned (.string (classN s.data.toList)) ∧ w = w' := by
  obtain ⟨p, t, hpt, hp, h3, ht, hcore⟩ := right_parts hs
  have HC : Hid (Lib.trimLeftB s.data.toList 91 = t) := hid hcore
  have HN : Hid (classN s.data.toList = bs (if isWd t = true then [] else (t.drop 1).dropLast)) := hid (by unfold classN classB; rw [hcore])
  obtain ⟨T, hT⟩ : ∃ T : ByteArray, (⟨t.toArray⟩ : ByteArray) = T := ⟨_, rfl⟩
  have hTl : T.data.toList = t := by rw [← hT]
  have HT := hid hT
  by_cases hw : isWd t = true
  · have HW : Hid (isWd T.data.toList = true) := hid (by rw [hTl]; exact hw)
    have HN2 : Hid (classN s.data.toList = ⟨#[]⟩) := hid (by rw [HN.out, if_pos hw]; rfl)
    clear hpt hcore hT hTl hw ht
    go_enter Tryz.func105, Tryz.ntmps105
    go_wp2_with fail
    refine (Tryz.strings_TrimLeft_one s 91 (by decide) w).mono ?_
    rintro e w1 ⟨rfl, rfl⟩
    rw [HC.out, HT.out]
    go_wp2_with fail
    refine (number_any T _).mono ?_
    rintro e w2 ⟨rfl, rfl⟩
    rw [HW.out]
    go_wp2
    go_ret
    exact ⟨by rw [HN2.out]; rfl, rfl⟩
  · obtain ⟨nm, rfl, hnm⟩ : ∃ nm, t = 76 :: (nm ++ [59]) ∧ nameOk nm = true := by
      rcases ht with rfl | rfl | h
      · exact absurd rfl hw
      · exact absurd rfl hw
      · exact h
    have hwf : isWd T.data.toList = false := by rw [hTl]; simpa using hw
    have HW := hid hwf
    have hsz : T.size = nm.length + 2 := by
      show T.data.size = _
      rw [← Array.length_toList, hTl]; simp
    have HN2 : Hid (classN s.data.toList = T.extract 1 (nm.length + 1)) := hid (by
      rw [HN.out, if_neg hw]
      have : (T.extract 1 (nm.length + 1)).data.toList = nm := by
        rw [ByteArray.data_extract, Array.toList_extract, hTl]
        simp [List.extract]
      have e2 : (List.drop 1 (76 :: (nm ++ [59]))).dropLast = nm := by simp
      rw [e2]
      cases hx : T.extract 1 (nm.length + 1) with
      | mk d =>
        rw [hx] at this
        unfold bs
        congr 1
        rw [← this])
    have hnl : nm.length ≤ 20 := by
      simp only [nameOk, Bool.and_eq_true, decide_eq_true_eq] at hnm
      exact hnm.1.1.2
    have hwm : wrap64 ((nm.length : Int) + 2 - 1) = (nm.length : Int) + 1 := by unfold wrap64; omega
    have hwn : ((nm.length : Int) + 1).toNat = nm.length + 1 := by omega
    have hn0 : (0 : Int) ≤ (nm.length : Int) := by omega
    clear hpt hcore hT hTl hw hwf hnm
    go_enter Tryz.func105, Tryz.ntmps105
    go_wp2_with fail
    refine (Tryz.strings_TrimLeft_one s 91 (by decide) w).mono ?_
    rintro e w1 ⟨rfl, rfl⟩
    rw [HC.out, HT.out]
    go_wp2_with fail
    refine (number_any T _).mono ?_
    rintro e w2 ⟨rfl, rfl⟩
    rw [HW.out]
    go_wp2
    go_ret
    exact ⟨by rw [HN2.out]; first | rfl | (simp [hwm, hwn]; done), rfl⟩
end Go.Proofs.YtloeaihbnnnncaaGreatDoor.worlds

/- Kinds: sub.Kind. Condition: the text is not long. -/
set_option linter.unusedSimpArgs false
set_option linter.unusedVariables false
namespace Go.Proofs.YtloeaihbnnnncaaGreatDoor.worlds
open Go.RowKit Go.Proofs.YtloeaihbnnnncaaGreatDoor.lib Go.Proofs.YtloeaihbnnnncaaGreatDoor.maps Go.Proofs.YtloeaihbnnnncaaGreatDoor.classes Go.Proofs.YtloeaihbnnnncaaGreatDoor.errs Go.Proofs.YtloeaihbnnnncaaGreatDoor.descs Go.Proofs.YtloeaihbnnnncaaGreatDoor.names

theorem clsN_no (t : List UInt8) : classN t = noB ↔ classB t = [] := by
  unfold classN bs noB
  constructor
  · intro h
    have := congrArg (fun x : ByteArray => x.data.toList) h
    simpa using this
  · intro h; rw [h]
set_option maxRecDepth 100000 in
set_option maxHeartbeats 4000000 in
theorem kind_any (W : WL) (b : Nat) (k : ByteArray) (w : World) (hW : WAt w b W) (hk : k.size ≤ 9223372036854775807) :
    Calls Tryz.prog 97 #[.map (some b), .string k] w fun e w' => e = .returned (errVal (kindF W k.data.toList)) ∧ Below w.heap.size w w' := by
  have HW := hid hW; have HK := hid hk
  clear hW hk
  by_cases h1 : k.data.toList = [78]
  · have g1 : k.toList = [78] := str_list.2 h1
    have HZ : Hid (kindF W k.data.toList = 0) := hid (if_pos (.inl h1))
    clear h1
    go_enter Tryz.func97, Tryz.ntmps97
    go_wp2
    go_ret
    exact ⟨by rw [HZ.out]; rfl, Below.refl _ _⟩
  by_cases h2 : k.data.toList = [84]
  · have g1 : k.toList = [84] := str_list.2 h2
    have HZ : Hid (kindF W k.data.toList = 0) := hid (if_pos (.inr h2))
    clear h1 h2
    go_enter Tryz.func97, Tryz.ntmps97
    go_wp2
    go_ret
    exact ⟨by rw [HZ.out]; rfl, Below.refl _ _⟩
  have g1 : ¬ k.toList = [78] := fun h => h1 (str_list.1 h)
  have g2 : ¬ k.toList = [84] := fun h => h2 (str_list.1 h)
  have g3 : (k.toList == [78]) = false := beq_eq_false_iff_ne.2 g1
  have g4 : (k.toList == [84]) = false := beq_eq_false_iff_ne.2 g2
  have HZ : Hid (kindF W k.data.toList = if isTy k.data.toList = false then 1 else if classB k.data.toList ≠ [] ∧ getK W (classN k.data.toList) = none then 3 else 0) := hid (if_neg (fun h => h.elim h1 h2))
  clear h1 h2
  by_cases h3 : isTy k.data.toList = true
  · have H3 := hid h3
    have HZ2 := hid HZ.out
    rw [if_neg (by rw [h3]; simp)] at HZ2
    have HCK := hid (tcheck_any k w HK.out)
    unfold names.Checked at HCK
    rw [h3, if_pos rfl] at HCK
    clear h3 HZ
    go_enter Tryz.func97, Tryz.ntmps97
    go_wp2_with fail
    refine HCK.out.mono ?_
    rintro e w1 ⟨rfl, hb1⟩
    have HB1 := hid hb1
    clear hb1
    go_wp2_with fail
    refine (class_any k w1 H3.out).mono ?_
    rintro e w2 ⟨rfl, rfl⟩
    obtain ⟨c, hc⟩ : ∃ c, classN k.data.toList = c := ⟨_, rfl⟩
    by_cases h4 : classB k.data.toList = []
    · have h5 : c.toList = [] := (noB_iff c).1 (hc ▸ (clsN_no _).2 h4)
      have h6 : (c.toList == []) = true := by rw [h5]; rfl
      have hz := HZ2.out
      rw [if_neg (by rintro ⟨h, _⟩; exact h h4)] at hz
      have HZ3 := hid hz
      rw [hc]
      clear h4 hz hc
      go_wp2
      go_ret
      exact ⟨by rw [HZ3.out]; rfl, HB1.out⟩
    · have h5 : ¬ c.toList = [] := fun h => h4 ((clsN_no _).1 (hc.trans ((noB_iff c).2 h)))
      have h6 : (c.toList == []) = false := beq_eq_false_iff_ne.2 h5
      have hz := HZ2.out
      rw [hc] at hz ⊢
      obtain ⟨nm4, sup4, b1, m1, d1, fc4, b2, m2, d2, b3, m3, d3, _, _, hlk⟩ := look_ok (HW.out.below HB1.out) c
      cases hg : getK W c with
      | none =>
        rw [hg] at hlk hz
        rw [if_pos ⟨h4, rfl⟩] at hz
        have HZ3 := hid hz
        simp only [Option.isSome_none] at hlk
        clear h4 hz hg
        go_wp2
        go_ret
        exact ⟨by rw [HZ3.out]; rfl, HB1.out.alloc HB1.out.size _⟩
      | some q =>
        rw [hg] at hlk hz
        rw [if_neg (by rintro ⟨_, h⟩; cases h)] at hz
        have HZ3 := hid hz
        simp only [Option.isSome_some] at hlk
        clear h4 hz hg
        go_wp2
        go_ret
        exact ⟨by rw [HZ3.out]; rfl, HB1.out.alloc HB1.out.size _⟩
  · have h3' : isTy k.data.toList = false := by simpa using h3
    have HZ2 := hid HZ.out
    rw [if_pos h3'] at HZ2
    have HCK := hid (tcheck_any k w HK.out)
    unfold names.Checked at HCK
    rw [h3', if_neg (by simp)] at HCK
    clear h3 h3' HZ
    go_enter Tryz.func97, Tryz.ntmps97
    go_wp2_with fail
    refine HCK.out.mono ?_
    rintro e w1 ⟨rfl, hb1⟩
    have HB1 := hid hb1
    clear hb1
    go_wp2
    go_ret
    exact ⟨by rw [HZ2.out]; rfl, HB1.out⟩
end Go.Proofs.YtloeaihbnnnncaaGreatDoor.worlds

/- Kinds: sub.Does. Condition: the types are right, the world is not great. -/
set_option linter.unusedSimpArgs false
set_option linter.unusedVariables false
namespace Go.Proofs.YtloeaihbnnnncaaGreatDoor.worlds
open Go.RowKit Go.Proofs.YtloeaihbnnnncaaGreatDoor.lib Go.Proofs.YtloeaihbnnnncaaGreatDoor.maps Go.Proofs.YtloeaihbnnnncaaGreatDoor.classes Go.Proofs.YtloeaihbnnnncaaGreatDoor.errs Go.Proofs.YtloeaihbnnnncaaGreatDoor.descs Go.Proofs.YtloeaihbnnnncaaGreatDoor.names

theorem does_same (W : WL) (x : UInt8) (a : List UInt8) : doesL W (x :: a) (x :: a) = true := by unfold doesL; rw [if_pos (.inr (.inl rfl))]
section
variable {W : WL} {x y : UInt8} {a c : List UInt8} (h84 : ¬ y :: c = [84]) (hne : ¬ x :: a = y :: c) (h78 : ¬ x :: a = [78])
include h84 hne h78
theorem does_head : ¬ (y :: c = [84] ∨ x :: a = y :: c ∨ (x :: a = [78] ∧ refs (y :: c) = true)) := by
  rintro (h | h | h)
  · exact h84 h
  · exact hne h
  · exact h78 h.1
theorem does_no (hr : refs (x :: a) = false ∨ refs (y :: c) = false) : doesL W (x :: a) (y :: c) = false := by
  unfold doesL; rw [if_neg (does_head h84 hne h78), if_pos hr]
theorem does_cls (hr : refs (y :: c) = true) (hx : x = 76) : doesL W (x :: a) (y :: c) = (decide ((y :: c).head? = some 76) && inTexts (classN (y :: c)) (everyU W (classN (x :: a)))) := by
  have h1 : refs (x :: a) = true := by subst hx; rfl
  unfold doesL; rw [if_neg (does_head h84 hne h78), if_neg (by rw [h1, hr]; simp), if_pos hx]
theorem does_obj (h1 : refs (x :: a) = true) (hx : ¬ x = 76) (hy : y = 76) : doesL W (x :: a) (y :: c) = decide (y :: c = objT) := by
  have h2 : refs (y :: c) = true := by subst hy; rfl
  unfold doesL; rw [if_neg (does_head h84 hne h78), if_neg (by rw [h1, h2]; simp), if_neg hx]; simp only [hy, if_true]
theorem does_arr (h1 : refs (x :: a) = true) (h2 : refs (y :: c) = true) (hx : ¬ x = 76) (hy : ¬ y = 76) : doesL W (x :: a) (y :: c) = (refs a && (refs c && doesL W a c)) := by
  rw [doesL]; rw [if_neg (does_head h84 hne h78), if_neg (by rw [h1, h2]; simp), if_neg hx]; simp only [hy, if_false]
end
theorem refs_head {x : UInt8} {a : List UInt8} : refs (x :: a) = true ↔ x = 76 ∨ x = 91 := by
  unfold refs
  simp
theorem ty_tail {a : List UInt8} (h : isTy (91 :: a) = true) : isTy a = true := by
  obtain ⟨p, t, hpt, hp, h3, ht, _⟩ := right_parts h
  cases p with
  | nil =>
    rw [List.nil_append] at hpt
    subst hpt
    rcases ht with ht | ht | ⟨nm, ht, _⟩ <;> simp at ht
  | cons z p =>
    simp only [List.cons_append, List.cons.injEq] at hpt
    obtain ⟨_, rfl⟩ := hpt
    have h1 := core_tail (p := p) (t := t) (fun y hy => hp y (List.mem_cons_of_mem _ hy)) (by simp only [List.length_cons] at h3; omega) ht []
    rw [List.append_nil] at h1
    have ht0 : 1 ≤ t.length := by rcases ht with rfl | rfl | ⟨nm, rfl, _⟩ <;> simp
    simp only [isTy, decide_eq_true_eq]
    rw [h1, List.length_append]
    exact ⟨by omega, rfl⟩

set_option maxRecDepth 100000 in
set_option maxHeartbeats 16000000 in
theorem does_any (W : WL) (b : Nat) (hs : ∀ x, (cAt W x).faces.length ≤ 1048576) (hm : most W ≤ 13000001) : ∀ (N : Nat) (f t : ByteArray) (w : World), f.size ≤ N → isTy f.data.toList = true → isTy t.data.toList = true → WAt w b W →
    Calls Tryz.prog 61 #[.map (some b), .string f, .string t] w fun e w' => e = .returned (.bool (doesL W f.data.toList t.data.toList)) ∧ Below w.heap.size w w' := by
  intro N
  induction N with
  | zero =>
    intro f t w hN hf
    have : f.data.toList = [] := by
      have h : f.data.size = 0 := Nat.le_zero.1 hN
      rw [← Array.length_toList] at h
      exact List.eq_nil_of_length_eq_zero h
    rw [this] at hf
    exact absurd hf (by decide)
  | succ N ih =>
    intro f t w hN hf ht hW
    obtain ⟨x, a, hF⟩ : ∃ x a, f.data.toList = x :: a := by
      cases h : f.data.toList with
      | nil => rw [h] at hf; exact absurd hf (by decide)
      | cons x a => exact ⟨x, a, rfl⟩
    obtain ⟨y, c, hT⟩ : ∃ y c, t.data.toList = y :: c := by
      cases h : t.data.toList with
      | nil => rw [h] at ht; exact absurd ht (by decide)
      | cons x a => exact ⟨x, a, rfl⟩
    have n84 : ¬ y :: c = [84] := fun h => by rw [hT, h] at ht; exact absurd ht (by decide +kernel)
    have n78 : ¬ x :: a = [78] := fun h => by rw [hF, h] at hf; exact absurd hf (by decide +kernel)
    have g1 : ¬ t.toList = [84] := fun h => n84 (hT ▸ str_list.1 h)
    have g2 : ¬ f.toList = [78] := fun h => n78 (hF ▸ str_list.1 h)
    have g3 : (t.toList == [84]) = false := beq_eq_false_iff_ne.2 g1
    have g4 : (f.toList == [78]) = false := beq_eq_false_iff_ne.2 g2
    have HW := hid hW; have HF := hid hF; have HT := hid hT; have HTF := hid hf; have HTT := hid ht
    by_cases hft : f = t
    · have s1 := str_eqb hft
      have HZ : Hid (doesL W f.data.toList t.data.toList = true) := hid (by rw [← hft, hF]; exact does_same W x a)
      have s2 : f.toList = t.toList := by rw [hft]
      clear hft hW hF hT hf ht n84 n78 ih
      go_enter Tryz.func61, Tryz.ntmps61
      go_wp2
      go_ret
      exact ⟨by rw [HZ.out]; rfl, Below.refl _ _⟩
    have s1 := str_neb hft
    have s2 : ¬ f.toList = t.toList := fun h => hft (by
      rw [ByteArray.toList_eq, ByteArray.toList_eq] at h
      exact ByteArray.ext (Array.toList_inj.1 h))
    have nne : ¬ x :: a = y :: c := fun h => hft (ByteArray.ext (Array.toList_inj.1 (by rw [hF, hT]; exact h)))
    have HRF := hid (refs_any f)
    have HRT := hid (refs_any t)
    rw [hF] at HRF
    rw [hT] at HRT
    rw [hF, hT]
    cases hr1 : refs (x :: a) with
    | false =>
      have HZ := hid (does_no (W := W) n84 nne n78 (.inl hr1))
      rw [hr1] at HRF
      clear hft hW hF hT hf ht n84 n78 nne ih hr1
      go_enter Tryz.func61, Tryz.ntmps61
      go_wp2_with fail
      refine (HRF.out _).mono ?_
      rintro e w1 ⟨rfl, rfl⟩
      go_wp2
      go_ret
      exact ⟨by rw [HZ.out]; rfl, Below.refl _ _⟩
    | true =>
      rw [hr1] at HRF
      cases hr2 : refs (y :: c) with
      | false =>
        have HZ := hid (does_no (W := W) n84 nne n78 (.inr hr2))
        rw [hr2] at HRT
        clear hft hW hF hT hf ht n84 n78 nne ih hr1 hr2
        go_enter Tryz.func61, Tryz.ntmps61
        go_wp2_with fail
        refine (HRF.out _).mono ?_
        rintro e w1 ⟨rfl, rfl⟩
        go_wp2_with fail
        refine (HRT.out _).mono ?_
        rintro e w2 ⟨rfl, rfl⟩
        go_wp2
        go_ret
        exact ⟨by rw [HZ.out]; rfl, Below.refl _ _⟩
      | true =>
        rw [hr2] at HRT
        obtain ⟨hf0, hfx⟩ := first_byte hF
        obtain ⟨ht0, hty⟩ := first_byte hT
        have hf0' : (0 : Int) < (f.size : Int) := by omega
        have ht0' : (0 : Int) < (t.size : Int) := by omega
        by_cases hx : x = 76
        · have HZ := hid (does_cls (W := W) n84 nne n78 hr2 hx)
          have HCF := hid (fun u => class_any f u HTF.out)
          have HCT := hid (fun u => class_any t u HTT.out)
          rw [hF] at HCF
          rw [hT] at HCT
          have HLE : Hid ((everyU W (classN (x :: a))).length ≤ 1000000000000) := hid (by have := rounds_most W (classN (x :: a)) (most W); unfold everyU; omega)
          subst hx
          by_cases hy : y = 76
          · subst hy
            clear hft hW hF hT hf ht n84 n78 nne ih hr1 hr2
            go_enter Tryz.func61, Tryz.ntmps61
            go_wp2_with fail
            refine (HRF.out _).mono ?_
            rintro e w1 ⟨rfl, rfl⟩
            go_wp2_with fail
            refine (HRT.out _).mono ?_
            rintro e w2 ⟨rfl, rfl⟩
            go_wp2_with fail
            refine (HCF.out _).mono ?_
            rintro e w3 ⟨rfl, rfl⟩
            go_wp2_with fail
            refine (every_any W b _ _ HW.out hs hm).mono ?_
            rintro e w4 ⟨v, rfl, hsl, hb4⟩
            have HSL := hid hsl
            have HB4 := hid hb4
            obtain ⟨av, cv, rfl⟩ := hsl.val
            clear hsl hb4
            go_wp2_with fail
            refine (HCT.out _).mono ?_
            rintro e w5 ⟨rfl, rfl⟩
            go_wp2_with fail
            refine (hasText_any _ _ _ (sortB (everyU W (classN (76 :: a)))) _ _ HSL.out HLE.out).mono ?_
            rintro e w6 ⟨rfl, rfl⟩
            go_wp2
            go_ret
            refine ⟨?_, HB4.out⟩
            rw [HZ.out]
            first | (rw [inT_sort]; simp; done) | (simp [inT_sort]; done)
          · have hyb : (y == 76) = false := by simpa using hy
            have HZ2 : Hid (doesL W (76 :: a) (y :: c) = false) := hid (by
              rw [HZ.out]
              simp [hy])
            have hyn : ¬ (y.toNat : Int) = 76 := fun h => hy (by
              apply UInt8.toNat.inj
              show y.toNat = 76
              omega)
            clear hft hW hF hT hf ht n84 n78 nne hr1 hr2 ih
            go_enter Tryz.func61, Tryz.ntmps61
            go_wp2_with fail
            refine (HRF.out _).mono ?_
            rintro e w1 ⟨rfl, rfl⟩
            go_wp2_with fail
            refine (HRT.out _).mono ?_
            rintro e w2 ⟨rfl, rfl⟩
            go_wp2
            go_ret
            exact ⟨by rw [HZ2.out]; rfl, Below.refl _ _⟩
        · obtain rfl : x = 91 := (refs_head.1 hr1).resolve_left hx
          by_cases hy : y = 76
          · subst hy
            have HZ := hid (does_obj (W := W) n84 nne n78 hr1 hx rfl)
            obtain ⟨TB, hTB⟩ : ∃ TB, bs (thingB objB) = TB := ⟨_, rfl⟩
            have HTB := hid hTB
            have hTBl : TB.data.toList = objT := by rw [← hTB]; rfl
            by_cases hto : t = TB
            · have s5 := str_eqb hto
              have HZ2 : Hid (doesL W (91 :: a) (76 :: c) = true) := hid (by
                rw [HZ.out, ← hT, hto, hTBl]; simp)
              clear hto hTB hTBl
              clear hft hW hF hT hf ht n84 n78 nne hr1 hr2 ih
              go_enter Tryz.func61, Tryz.ntmps61
              go_wp2_with fail
              refine (HRF.out _).mono ?_
              rintro e w1 ⟨rfl, rfl⟩
              go_wp2_with fail
              refine (HRT.out _).mono ?_
              rintro e w2 ⟨rfl, rfl⟩
              go_wp2_with fail
              refine (thing_any objB _ (by decide)).mono ?_
              rintro e w3 ⟨rfl, rfl⟩
              rw [HTB.out]
              go_wp2
              go_ret
              exact ⟨by rw [HZ2.out]; rfl, Below.refl _ _⟩
            · have s5 := str_neb hto
              have s6 : ¬ t.toList = TB.toList := fun h => hto (by
                rw [ByteArray.toList_eq, ByteArray.toList_eq] at h
                exact ByteArray.ext (Array.toList_inj.1 h))
              have HZ2 : Hid (doesL W (91 :: a) (76 :: c) = false) := hid (by
                rw [HZ.out]
                refine decide_eq_false fun h => hto (ByteArray.ext (Array.toList_inj.1 ?_))
                rw [hT, h, hTBl])
              clear hto hTB hTBl
              clear hft hW hF hT hf ht n84 n78 nne hr1 hr2 ih
              go_enter Tryz.func61, Tryz.ntmps61
              go_wp2_with fail
              refine (HRF.out _).mono ?_
              rintro e w1 ⟨rfl, rfl⟩
              go_wp2_with fail
              refine (HRT.out _).mono ?_
              rintro e w2 ⟨rfl, rfl⟩
              go_wp2_with fail
              refine (thing_any objB _ (by decide)).mono ?_
              rintro e w3 ⟨rfl, rfl⟩
              rw [HTB.out]
              go_wp2
              go_ret
              exact ⟨by rw [HZ2.out]; rfl, Below.refl _ _⟩
          · obtain rfl : y = 91 := (refs_head.1 hr2).resolve_left hy
            have HZ := hid (does_arr (W := W) n84 nne n78 hr1 hr2 hx hy)
            have HTA := hid (ty_tail (hF ▸ hf))
            have HTC := hid (ty_tail (hT ▸ ht))
            obtain ⟨FA, hFA⟩ : ∃ FA, f.extract 1 f.size = FA := ⟨_, rfl⟩
            obtain ⟨TA, hTA⟩ : ∃ TA, t.extract 1 t.size = TA := ⟨_, rfl⟩
            have hFAl : FA.data.toList = a := by
              rw [← hFA, ByteArray.data_extract, Array.toList_extract, hF]
              have : f.size = a.length + 1 := by
                show f.data.size = _
                rw [← Array.length_toList, hF]; rfl
              rw [this]; simp [List.extract]
            have hTAl : TA.data.toList = c := by
              rw [← hTA, ByteArray.data_extract, Array.toList_extract, hT]
              have : t.size = c.length + 1 := by
                show t.data.size = _
                rw [← Array.length_toList, hT]; rfl
              rw [this]; simp [List.extract]
            have HSF : Hid (FA.size ≤ N) := hid (by
              have h1 : FA.size = a.length := by show FA.data.size = _; rw [← Array.length_toList, hFAl]
              have h2 : f.size = a.length + 1 := by show f.data.size = _; rw [← Array.length_toList, hF]; rfl
              omega)
            have HFA := hid hFAl; have HTAl := hid hTAl
            have q1 : (1 : Int) ≤ (f.size : Int) := by omega
            have q2 : (1 : Int) ≤ (t.size : Int) := by omega
            have HIH : Hid (∀ u, WAt u b W → Calls Tryz.prog 61 #[.map (some b), .string FA, .string TA] u fun e w' => e = .returned (.bool (doesL W a c)) ∧ Below u.heap.size u w') := hid (fun u hu => by
              have h := ih FA TA u HSF.out (by rw [hFAl]; exact HTA.out) (by rw [hTAl]; exact HTC.out) hu
              rw [hFAl, hTAl] at h; exact h)
            have HRA := hid (refs_any FA)
            have HRC := hid (refs_any TA)
            rw [hFAl] at HRA
            rw [hTAl] at HRC
            obtain ⟨r1, hr1'⟩ : ∃ r1, refs a = r1 := ⟨_, rfl⟩
            obtain ⟨r2, hr2'⟩ : ∃ r2, refs c = r2 := ⟨_, rfl⟩
            rw [hr1'] at HRA HZ
            rw [hr2'] at HRC HZ
            clear hr1' hr2'
            clear hFAl hTAl
            clear hft hW hF hT hf ht n84 n78 nne hr1 hr2 ih
            go_enter Tryz.func61, Tryz.ntmps61
            go_wp2_with fail
            refine (HRF.out _).mono ?_
            rintro e w1 ⟨rfl, rfl⟩
            go_wp2_with fail
            refine (HRT.out _).mono ?_
            rintro e w2 ⟨rfl, rfl⟩
            go_wp2_with fail
            go_quiet (fail)
            have HBD := hid (below_drewN (Below.refl w.heap.size w) nq)
            go_wp2_with fail
            refine (HRA.out _).mono ?_
            rintro e w3 ⟨rfl, rfl⟩
            cases r1 with
            | false =>
              go_wp2
              go_ret
              exact ⟨by rw [HZ.out]; rfl, HBD.out⟩
            | true =>
              go_wp2_with fail
              refine (HRC.out _).mono ?_
              rintro e w4 ⟨rfl, rfl⟩
              cases r2 with
              | false =>
                go_wp2
                go_ret
                exact ⟨by rw [HZ.out]; rfl, HBD.out⟩
              | true =>
                go_wp2_with fail
                refine (HIH.out _ (HW.out.below HBD.out)).mono ?_
                rintro e w5 ⟨rfl, hb5⟩
                have HB5 := hid (HBD.out.trans (hb5.mono HBD.out.size))
                clear hb5
                go_wp2
                go_ret
                exact ⟨by rw [HZ.out]; rfl, HB5.out⟩
end Go.Proofs.YtloeaihbnnnncaaGreatDoor.worlds
