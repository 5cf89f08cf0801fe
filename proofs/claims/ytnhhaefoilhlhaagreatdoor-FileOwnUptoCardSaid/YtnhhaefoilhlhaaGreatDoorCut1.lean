/- Code as bytes, cut off bytes again, plainly. No condition of the world. -/
import Derived.Test.YtnhhaefoilhlhaaGreatDoorBack1
set_option linter.unusedSimpArgs false
set_option linter.unusedVariables false
namespace Go.Proofs.YtnhhaefoilhlhaaGreatDoor.txts
open Go.RowKit Go.Proofs.YtnhhaefoilhlhaaGreatDoor.lib Go.Proofs.YtnhhaefoilhlhaaGreatDoor.errs Go.Proofs.YtnhhaefoilhlhaaGreatDoor.names Go.Proofs.YtnhhaefoilhlhaaGreatDoor.descs Go.Proofs.YtnhhaefoilhlhaaGreatDoor.ins Go.Proofs.YtnhhaefoilhlhaaGreatDoor.nums Go.Proofs.YtnhhaefoilhlhaaGreatDoor.flows

/-- a right text is short -/
theorem ty_short (l : List UInt8) : tyLen l ≤ 25 := by
  unfold tyLen
  split
  · exact Nat.zero_le _
  · rename_i hd
    cases hdw : l.dropWhile (· == 91) with
    | nil => exact Nat.zero_le _
    | cons c r =>
      rw [hdw] at hd
      simp only
      split
      · omega
      · split
        · split
          · exact Nat.zero_le _
          · rename_i h3
            split
            · rename_i h4
              have hge := Lib.indexByte_ge (c :: r) 59
              obtain ⟨j, hj⟩ : ∃ j : Nat, Lib.indexByte (c :: r) 59 = (j : Int) := ⟨(Lib.indexByte (c :: r) 59).toNat, by omega⟩
              have hs := (Lib.indexByte_some hj).1
              have hjl := (List.getElem?_eq_some_iff.1 hs).1
              rw [hj, Int.toNat_natCast] at h4 ⊢
              unfold nameOk at h4
              simp only [Bool.and_eq_true, decide_eq_true_eq] at h4
              have h5 := h4.1.1.2
              rw [List.length_drop, List.length_take] at h5
              omega
            · exact Nat.zero_le _
        · exact Nat.zero_le _
theorem scan_short : ∀ (n : Nat) (l : List UInt8), l.length ≤ n → l.length ≤ 25 * (scan l).1.length + (scan l).2.length := by
  intro n
  induction n with
  | zero => intro l hl; omega
  | succ n ih =>
    intro l hl
    by_cases h1 : l.head? = some 41 ∨ tyLen l = 0
    · rw [scan_stop h1]; simp
    · have h2 : ¬ l.head? = some 41 := fun e => h1 (.inl e)
      have h3 : tyLen l ≠ 0 := fun e => h1 (.inr e)
      rw [scan_step h2 h3]
      have hd := ih (l.drop (tyLen l)) (by rw [List.length_drop]; omega)
      have h25 := ty_short l
      rw [List.length_drop] at hd
      simp only [List.length_cons]
      omega
theorem isTy_short {l : List UInt8} (h : isTy l = true) : l.length ≤ 25 := by
  unfold isTy at h
  simp only [decide_eq_true_eq] at h
  have := ty_short l
  omega
theorem method_short {l : List UInt8} (h : (methodOf l).isSome = true) : l.length ≤ 152 := by
  cases l with
  | nil => simp
  | cons c r =>
    rw [methodOf] at h
    by_cases h1 : c = 40 ∧ (scan r).2.head? = some 41 ∧ (scan r).1.length ≤ 5 ∧ ((scan r).2.drop 1 = [86] ∨ isTy ((scan r).2.drop 1) = true)
    · obtain ⟨hc, hh, h5, hg⟩ := h1
      have hs := scan_short r.length r (Nat.le_refl _)
      have hl : ((scan r).2.drop 1).length ≤ 25 := by
        rcases hg with hg | hg
        · rw [hg]; simp
        · exact isTy_short hg
      rw [List.length_drop] at hl
      simp only [List.length_cons]
      omega
    · rw [if_neg h1] at h; cases h
theorem type_short {x : I} (ht : typedOk x = true) (h : isIn x.op [2, 9, 10] = true ∨ isIn x.op [18, 20, 21] = true ∨ isIn x.op [22, 23] = true ∨ isIn x.op [24, 25] = true) : x.t.data.toList.length ≤ 152 := by
  unfold typedOk at ht
  by_cases h1 : isIn x.op [2, 9, 10] = true
  · rw [if_pos h1] at ht
    unfold isWd at ht
    simp only [decide_eq_true_eq] at ht
    rcases ht with ht | ht <;> (rw [ht]; simp)
  rw [if_neg h1] at ht
  by_cases h2 : isIn x.op [18, 20, 21] = true
  · rw [if_pos h2, Bool.and_eq_true] at ht; have := isTy_short ht.1; omega
  rw [if_neg h2] at ht
  by_cases h3 : isIn x.op [22, 23] = true
  · rw [if_pos h3, Bool.and_eq_true] at ht; have := isTy_short ht.1; omega
  rw [if_neg h3] at ht
  by_cases h4 : isIn x.op [24, 25] = true
  · rw [if_pos h4] at ht; exact method_short ht
  · rcases h with h | h | h | h
    · exact absurd h h1
    · exact absurd h h2
    · exact absurd h h3
    · exact absurd h h4
theorem text_tiny {x : I} (h : insFault x = 0) (ha : InR x.a) (hb : InR x.b) : (textL x).length ≤ 255 ∧ textL x ≠ [] := by
  obtain ⟨k, wd, nd, hk, h1, h2, hp, e⟩ := form_of h
  obtain ⟨_, _, hc, hn⟩ := brief_of h
  obtain ⟨_, htyp, _, _⟩ := right_ins h
  obtain ⟨_, _, pT, _, _, pm⟩ := pat_of hp h1 h2
  have hw := (letters_ok hp).2.2
  have ka := Lib.itoa_length_le x.a ha.1 ha.2
  have kb := Lib.itoa_length_le x.b hb.1 hb.2
  have ht : nd.contains 84 = true → x.t.data.toList.length ≤ 152 := fun h84 => type_short htyp (by rw [hk]; exact kinds_of h2 (by rw [pT, h84]))
  rw [← size_len] at hc hn
  have hne : wd ≠ [] := by
    rintro rfl
    have := word_one hp (show formTab[0]? = some ([], []) from rfl)
    omega
  refine ⟨?_, by rw [e]; simp [hne]⟩
  rw [e, List.length_append]
  simp only [patsL, List.mem_cons, List.not_mem_nil, or_false] at pm
  rcases pm with rfl | rfl | rfl | rfl | rfl | rfl | rfl | rfl <;> simp [tailL, partL] at ht ⊢ <;> simp at hc hn <;> omega

/-- instructions off bytes; what is behind them -/
def cutF : Nat → List Int → Option (List I × List Int)
  | 0, r => some ([], r)
  | _ + 1, [] => none
  | n + 1, k :: r => if (r.length : Int) < k then none else match parseW (strOfNums (r.take k.toNat)).data.toList with
    | none => none
    | some x => (cutF n (r.drop k.toNat)).map fun p => (x :: p.1, p.2)
def cutB : List Int → Option (List I × List Int)
  | [] => none
  | n :: r => if 40 < n then none else cutF n.toNat r

theorem nums_back (T : List UInt8) : (strOfNums (T.map fun b => (b.toNat : Int))).data.toList = T := by
  rw [strOfNums_data, List.map_map]
  have : ∀ l : List UInt8, l.map ((fun n : Int => UInt8.ofNat n.toNat) ∘ fun b : UInt8 => (b.toNat : Int)) = l := fun l => by
    induction l with
    | nil => rfl
    | cons c r ih => rw [List.map_cons, ih]; simp
  exact this T
def Good1 (x : I) : Prop := insFault x = 0 ∧ InR x.a ∧ InR x.b
theorem enc_head {x : I} (h : Good1 x) (q : List Int) : encI x ++ q = ((textL x).length : Int) :: ((textL x).map (fun b => (b.toNat : Int)) ++ q) := by
  have := (text_tiny h.1 h.2.1 h.2.2).1
  unfold encI
  rw [List.cons_append, show ((textL x).length : Int) % 256 = ((textL x).length : Int) by omega]
theorem cutF_step {x : I} (h : Good1 x) (n : Nat) (q : List Int) : cutF (n + 1) (encI x ++ q) = (cutF n q).map fun p => (x :: p.1, p.2) := by
  rw [enc_head h, cutF, if_neg (by rw [List.length_append, List.length_map]; omega)]
  have e1 : ((textL x).map (fun b => (b.toNat : Int)) ++ q).take ((textL x).length : Int).toNat = (textL x).map fun b => (b.toNat : Int) := by
    rw [Int.toNat_natCast, List.take_left' (by simp)]
  have e2 : ((textL x).map (fun b => (b.toNat : Int)) ++ q).drop ((textL x).length : Int).toNat = q := by
    rw [Int.toNat_natCast, List.drop_left' (by simp)]
  rw [e1, e2, nums_back, parse_text h.1 h.2.1 h.2.2]
theorem cutF_enc : ∀ (l : List I) (q : List Int), (∀ x ∈ l, Good1 x) → cutF l.length (l.flatMap encI ++ q) = some (l, q)
  | [], q, _ => rfl
  | x :: l, q, h => by
    rw [List.flatMap_cons, List.append_assoc, List.length_cons, cutF_step (h x (List.mem_cons_self ..)), cutF_enc l q fun y hy => h y (List.mem_cons_of_mem _ hy)]
    rfl
theorem cutF_short : ∀ (l : List I), l ≠ [] → (∀ x ∈ l, Good1 x) → cutF l.length (l.flatMap encI).dropLast = none
  | [], h, _ => absurd rfl h
  | [x], _, h => by
    have hx := h x (List.mem_cons_self ..)
    have hne := (text_tiny hx.1 hx.2.1 hx.2.2).2
    have e : ([x] : List I).flatMap encI = encI x ++ [] := by simp
    rw [e, enc_head hx, List.append_nil, List.dropLast_cons_of_ne_nil (by simpa using hne), List.length_singleton, cutF, if_pos]
    rw [List.length_dropLast, List.length_map]
    have : 0 < (textL x).length := List.length_pos_iff.2 hne
    omega
  | x :: y :: l, _, h => by
    have hx := h x (List.mem_cons_self ..)
    have ih := cutF_short (y :: l) (by simp) fun z hz => h z (List.mem_cons_of_mem _ hz)
    have hy : (y :: l).flatMap encI ≠ [] := by rw [List.flatMap_cons]; simp [encI]
    rw [List.flatMap_cons, List.dropLast_append_of_ne_nil hy, List.length_cons, cutF_step hx, ih]
    rfl
theorem cutF_right : ∀ (n : Nat) (r : List Int) (l : List I) (q : List Int), cutF n r = some (l, q) → (∀ z ∈ r, 0 ≤ z ∧ z ≤ 255) → r.length ≤ 10000000 →
    l.length = n ∧ r = l.flatMap encI ++ q ∧ ∀ x ∈ l, insFault x = 0 ∧ Fine x
  | 0, r, l, q, h, _, _ => by
    rw [cutF] at h
    cases h
    exact ⟨rfl, rfl, fun x hx => by cases hx⟩
  | n + 1, [], l, q, h, _, _ => by rw [cutF] at h; cases h
  | n + 1, k :: r, l, q, h, hb, hr => by
    rw [cutF] at h
    obtain ⟨hk0, hk1⟩ := hb k (List.mem_cons_self ..)
    rw [List.length_cons] at hr
    split at h
    · cases h
    · rename_i hlt
      have hbt : ∀ z ∈ r.take k.toNat, 0 ≤ z ∧ z ≤ 255 := fun z hz => hb z (List.mem_cons_of_mem _ (List.mem_of_mem_take hz))
      cases hp : parseW (strOfNums (r.take k.toNat)).data.toList with
      | none => rw [hp] at h; cases h
      | some x =>
        rw [hp] at h
        simp only at h
        cases hc : cutF n (r.drop k.toNat) with
        | none => rw [hc] at h; cases h
        | some p =>
          obtain ⟨l', q'⟩ := p
          rw [hc] at h
          simp only [Option.map_some, Option.some.injEq, Prod.mk.injEq] at h
          obtain ⟨rfl, rfl⟩ := h
          obtain ⟨h1, h2, h3⟩ := cutF_right n _ l' q' hc (fun z hz => hb z (List.mem_cons_of_mem _ (List.mem_of_mem_drop hz))) (by rw [List.length_drop]; omega)
          have hsl : (strOfNums (r.take k.toNat)).data.toList.length ≤ 10000000 := by rw [strOfNums_data, List.length_map, List.length_take]; omega
          obtain ⟨g1, g2, g3⟩ := parse_right hp hsl
          have hlen : (textL x).length = k.toNat := by rw [g2, strOfNums_data, List.length_map, List.length_take]; omega
          have hmap : (textL x).map (fun b => (b.toNat : Int)) = r.take k.toNat := by
            rw [g2, strOfNums_data, List.map_map]
            have : ∀ l : List Int, (∀ z ∈ l, 0 ≤ z ∧ z ≤ 255) → l.map ((fun b : UInt8 => (b.toNat : Int)) ∘ fun z => UInt8.ofNat z.toNat) = l := fun l hl => by
              induction l with
              | nil => rfl
              | cons c r ih =>
                have hc := hl c (List.mem_cons_self ..)
                rw [List.map_cons, ih fun z hz => hl z (List.mem_cons_of_mem _ hz)]
                congr 1
                show ((UInt8.ofNat c.toNat).toNat : Int) = c
                rw [UInt8.toNat_ofNat']
                omega
            exact this _ hbt
          refine ⟨by simp [h1], ?_, fun y hy => ?_⟩
          · rw [List.flatMap_cons, List.append_assoc, ← h2, encI, hlen, hmap, List.cons_append, List.take_append_drop]
            congr 1
            omega
          · rcases List.mem_cons.1 hy with rfl | hy
            · exact ⟨g1, g3⟩
            · exact h3 y hy

theorem bad_none : ∀ {l : List I}, badIns l = 0 → ∀ x ∈ l, insFault x = 0
  | [], _, x, h => by cases h
  | y :: l, hb, x, h => by
    unfold badIns at hb
    split at hb
    · rename_i h0
      rcases List.mem_cons.1 h with rfl | h
      · exact h0
      · exact bad_none hb x h
    · rename_i h0; exact absurd hb h0
theorem none_bad : ∀ {l : List I}, (∀ x ∈ l, insFault x = 0) → badIns l = 0
  | [], _ => rfl
  | y :: l, h => by
    unfold badIns
    rw [if_pos (h y (List.mem_cons_self ..))]
    exact none_bad fun x hx => h x (List.mem_cons_of_mem _ hx)
theorem enc_all {l : List I} (h : l.length ≤ 40) : encTo l l.length = (l.length : Int) :: l.flatMap encI := by
  unfold encTo
  rw [List.take_length, show (l.length : Int) % 256 = (l.length : Int) by omega]
theorem code_good {l : List I} (h : codeErr l = 0) : l.length ≤ 40 ∧ ∀ x ∈ l, insFault x = 0 := by
  unfold codeErr at h
  split at h
  · cases h
  · exact ⟨by omega, bad_none h⟩
/-- an encoding, cut again, is the code; with something behind it; without its last byte it is none -/
theorem cut_enc {l : List I} (h : codeErr l = 0) (hi : ∀ x ∈ l, InR x.a ∧ InR x.b) (q : List Int) : cutB (encTo l l.length ++ q) = some (l, q) := by
  obtain ⟨h40, hg⟩ := code_good h
  rw [enc_all h40, List.cons_append, cutB, if_neg (by omega), Int.toNat_natCast]
  exact cutF_enc l q fun x hx => ⟨hg x hx, hi x hx⟩
theorem cut_short {l : List I} (h : codeErr l = 0) (hi : ∀ x ∈ l, InR x.a ∧ InR x.b) : cutB (encTo l l.length).dropLast = none := by
  obtain ⟨h40, hg⟩ := code_good h
  rw [enc_all h40]
  by_cases hl : l = []
  · subst hl; rfl
  · have hne : l.flatMap encI ≠ [] := by
      cases l with
      | nil => exact absurd rfl hl
      | cons x l => rw [List.flatMap_cons]; simp [encI]
    rw [List.dropLast_cons_of_ne_nil hne, cutB, if_neg (by omega), Int.toNat_natCast]
    exact cutF_short l hl fun x hx => ⟨hg x hx, hi x hx⟩
/-- what bytes are cut into is right, and the bytes are its encoding -/
theorem cut_right {b : List Int} {l : List I} {q : List Int} (h : cutB b = some (l, q)) (hb : ∀ z ∈ b, 0 ≤ z ∧ z ≤ 255) (hl : b.length ≤ 10000000) :
    codeErr l = 0 ∧ b = encTo l l.length ++ q ∧ ∀ x ∈ l, Fine x := by
  cases b with
  | nil => cases h
  | cons n r =>
    rw [cutB] at h
    obtain ⟨hn0, hn1⟩ := hb n (List.mem_cons_self ..)
    rw [List.length_cons] at hl
    split at h
    · cases h
    · rename_i h40
      obtain ⟨h1, h2, h3⟩ := cutF_right n.toNat r l q h (fun z hz => hb z (List.mem_cons_of_mem _ hz)) (by omega)
      refine ⟨?_, ?_, fun x hx => (h3 x hx).2⟩
      · unfold codeErr
        rw [if_neg (by omega)]
        exact none_bad fun x hx => (h3 x hx).1
      · rw [enc_all (by omega), List.cons_append, ← h2]
        congr 1
        omega
end Go.Proofs.YtnhhaefoilhlhaaGreatDoor.txts

/- code.Cut: its walk. Conditions: as ins.Parse; the bytes are bytes. NOT YET BUILT CLEAN unless NOTES.md says so. -/
set_option linter.unusedSimpArgs false
set_option linter.unusedVariables false
namespace Go.Proofs.YtnhhaefoilhlhaaGreatDoor.txts
open Go.RowKit Go.Proofs.YtnhhaefoilhlhaaGreatDoor.lib Go.Proofs.YtnhhaefoilhlhaaGreatDoor.errs Go.Proofs.YtnhhaefoilhlhaaGreatDoor.names Go.Proofs.YtnhhaefoilhlhaaGreatDoor.descs Go.Proofs.YtnhhaefoilhlhaaGreatDoor.ins Go.Proofs.YtnhhaefoilhlhaaGreatDoor.nums Go.Proofs.YtnhhaefoilhlhaaGreatDoor.flows

theorem infoC : (Tryz.prog.info? 109).map (fun i => (i.zero, i.size, i.bytes)) = some (some (.agg #[.int .i64 0, .int .i64 0, .int .i64 0, .string { data := #[] }, .string { data := #[] }, .string { data := #[] }]), 6, 72) := by kernel_rfl
theorem cells_snocC (l : List I) (x : I) : cellsOf (l ++ [x]) = cellsOf l ++ x.cells := by simp [cellsOf, List.flatMap_append]
/-- what Cut answers -/
def CutBy (w : World) (b : List Int) (e : Ending) (w' : World) : Prop := match cutB b with
  | none => e = .returned (.tuple #[.slice none 0 0, .slice none 0 0, .iface 36 (.int .i64 1)]) ∧ Below w.heap.size w w'
  | some (l, q) => ∃ v1 v2, e = .returned (.tuple #[v1, v2, .nilIface]) ∧ Out w w' 109 6 v1 l.length (cellsOf l) ∧ Sl w' v2 q.length 1 (q.map (.int .u8))
theorem cutBy_none {w w' : World} {b : List Int} (h : cutB b = none) (hb : Below w.heap.size w w') : CutBy w b (.returned (.tuple #[.slice none 0 0, .slice none 0 0, .iface 36 (.int .i64 1)])) w' := by
  unfold CutBy; rw [h]; exact ⟨rfl, hb⟩
theorem cutBy_some {w w' : World} {b : List Int} {l : List I} {q : List Int} {v1 v2 : Value} (h : cutB b = some (l, q)) (ho : Out w w' 109 6 v1 l.length (cellsOf l)) (hs : Sl w' v2 q.length 1 (q.map (.int .u8))) : CutBy w b (.returned (.tuple #[v1, v2, .nilIface])) w' := by
  unfold CutBy; rw [h]; exact ⟨v1, v2, rfl, ho, hs⟩

/-- what Cut answers, told of an older world in which the bytes lie -/
def CutFrom (w0 w : World) (b : List Int) (e : Ending) (w' : World) : Prop := match cutB b with
  | none => e = .returned (.tuple #[.slice none 0 0, .slice none 0 0, .iface 36 (.int .i64 1)]) ∧ Below w.heap.size w w'
  | some (l, q) => ∃ v1 v2, e = .returned (.tuple #[v1, v2, .nilIface]) ∧ Out w w' 109 6 v1 l.length (cellsOf l) ∧ Sl w0 v2 q.length 1 (q.map (.int .u8))
theorem cutFrom_none {w0 w w' : World} {b : List Int} (h : cutB b = none) (hb : Below w.heap.size w w') : CutFrom w0 w b (.returned (.tuple #[.slice none 0 0, .slice none 0 0, .iface 36 (.int .i64 1)])) w' := by
  unfold CutFrom; rw [h]; exact ⟨rfl, hb⟩
theorem cutFrom_some {w0 w w' : World} {b : List Int} {l : List I} {q : List Int} {v1 v2 : Value} (h : cutB b = some (l, q)) (ho : Out w w' 109 6 v1 l.length (cellsOf l)) (hs : Sl w0 v2 q.length 1 (q.map (.int .u8))) : CutFrom w0 w b (.returned (.tuple #[v1, v2, .nilIface])) w' := by
  unfold CutFrom; rw [h]; exact ⟨v1, v2, rfl, ho, hs⟩
theorem cutBy_of {w w' : World} {b : List Int} {e : Ending} (h : CutFrom w w b e w') : CutBy w b e w' := by
  unfold CutFrom at h
  unfold CutBy
  cases hc : cutB b with
  | none => rw [hc] at h; exact h
  | some p =>
    rw [hc] at h
    obtain ⟨v1, v2, he, ho, hs⟩ := h
    exact ⟨v1, v2, he, ho, hs.below ho.below⟩

/-- after some rounds -/
structure CutRel (w0 w wr : World) (b : List Int) (n k : Nat) (v r : Value) (X : List I) (R : List Int) : Prop where
  kle : k ≤ n
  rest : Sl w0 r R.length 1 (R.map (.int .u8))
  out : Out w wr 109 6 v X.length (cellsOf X)
  says : cutB b = (cutF (n - k) R).map fun p => (X ++ p.1, p.2)
  few : X.length = k
  all : ∀ z ∈ R, 0 ≤ z ∧ z ≤ 255
  len : R.length ≤ 10000000
theorem cutRel_step {w0 w wr w' : World} {b : List Int} {n k : Nat} {v v' r' : Value} {r : Value} {X : List I} {R : List Int} {z : Int} {R' : List Int} {x : I} (h : CutRel w0 w wr b n k v r X (z :: R')) (hk : k < n) (hz : ¬ (R'.length : Int) < z)
    (hp : parseW (strOfNums (R'.take z.toNat)).data.toList = some x) (ho : Out w w' 109 6 v' (X.length + 1) (cellsOf X ++ x.cells)) (hs : Sl w0 r' (R'.drop z.toNat).length 1 ((R'.drop z.toNat).map (.int .u8))) : CutRel w0 w w' b n (k + 1) v' r' (X ++ [x]) (R'.drop z.toNat) := by
  refine ⟨hk, hs, ?_, ?_, by simp [h.few], fun y hy => h.all y (List.mem_cons_of_mem _ (List.mem_of_mem_drop hy)), ?_⟩
  · rw [cells_snocC, List.length_append]; exact ho
  · rw [h.says, show n - k = (n - (k + 1)) + 1 by omega, cutF, if_neg hz, hp]
    simp only
    cases cutF (n - (k + 1)) (R'.drop z.toNat) with
    | none => rfl
    | some p => simp
  · have := h.len; rw [List.length_cons] at this; rw [List.length_drop]; omega
theorem cutRel_none {w0 w wr : World} {b : List Int} {n k : Nat} {v r : Value} {X : List I} {R : List Int} (h : CutRel w0 w wr b n k v r X R) (hn : cutF (n - k) R = none) : cutB b = none := by rw [h.says, hn]; rfl
end Go.Proofs.YtnhhaefoilhlhaaGreatDoor.txts
