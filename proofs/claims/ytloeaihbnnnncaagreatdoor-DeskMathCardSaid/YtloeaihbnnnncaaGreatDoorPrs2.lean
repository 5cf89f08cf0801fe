/- ins.Parse: its walk. Conditions: the variables that it reads hold what they hold at the start; the text is not long. -/
import Derived.Test.YtloeaihbnnnncaaGreatDoorPrs1
import Derived.Test.YtloeaihbnnnncaaGreatDoorGrow
import Derived.Laws.Rows
import Derived.BigQuiet
import Derived.Deep.LoopGhost
set_option linter.unusedSimpArgs false
set_option linter.unusedVariables false
namespace Go.Proofs.YtloeaihbnnnncaaGreatDoor.txts
open Go.RowKit Go.Proofs.YtloeaihbnnnncaaGreatDoor.lib Go.Proofs.YtloeaihbnnnncaaGreatDoor.errs Go.Proofs.YtloeaihbnnnncaaGreatDoor.names Go.Proofs.YtloeaihbnnnncaaGreatDoor.descs Go.Proofs.YtloeaihbnnnncaaGreatDoor.ins Go.Proofs.YtloeaihbnnnncaaGreatDoor.nums Go.Proofs.YtloeaihbnnnncaaGreatDoor.flows Go.Proofs.YtloeaihbnnnncaaGreatDoor.grow

/-- the table as one value -/
def tabA : Array Value := (formTab.flatMap fun p => [sv p.1, sv p.2]).toArray
theorem wpList_load_flat {P : Program} {ops : Array Oper} {rest : List Oper} {o : Oper} {a : Act} {w : World} {Q : Exit → Act → World → Prop} (hgd : o.guard = none) (ty : TypeId) (x : Operand) (ho : o.op = .load ty x)
    (b off : Nat) (hx : a.eval x = .pointer (some ⟨b, off, none⟩)) (cs : Array Value) (d : TypeDesc) (hg : ∀ j, j < cs.size → w.cell? ⟨b, off + j, none⟩ = cs[j]?)
    (hu : P.underlying ty = some d) (hd : (match d with | .struct _ | .array _ _ => true | _ => false) = true) (hi : (P.info? ty).map (·.size) = some cs.size)
    (h : wpList P ops Q rest (a.put o.dst (.agg cs)) w) : wpList P ops Q (o :: rest) a w := by
  refine wpList_plain hgd fun K hK => ?_
  unfold Oper.wp execOp
  simp only [ho, hx, Instr.loadAt, Instr.sureAddr, Sem.run_bind, Sem.run_pure, Result.andThen_ok, run_loadVar_flat w b off ty cs d hg hu hd hi]
  exact hK _ _ h
theorem tab_len : tabA.size = 58 := by kernel_rfl
theorem tab_flat : ∀ (l : List (List UInt8 × List UInt8)) (k : Nat), (l.flatMap fun p => [sv p.1, sv p.2])[k * 2]? = l[k]?.map (fun p => sv p.1) ∧ (l.flatMap fun p => [sv p.1, sv p.2])[k * 2 + 1]? = l[k]?.map (fun p => sv p.2)
  | [], k => by simp
  | p :: l, 0 => by simp
  | p :: l, k + 1 => by
    have h := tab_flat l k
    rw [List.flatMap_cons, show (k + 1) * 2 = k * 2 + 2 by omega, show k * 2 + 2 + 1 = (k * 2 + 1) + 2 by omega]
    exact ⟨by rw [List.cons_append, List.cons_append, List.nil_append, List.getElem?_cons_succ, List.getElem?_cons_succ, h.1]; rfl, by rw [List.cons_append, List.cons_append, List.nil_append, List.getElem?_cons_succ, List.getElem?_cons_succ, h.2]; rfl⟩
theorem tab_cell {w : World} (h : FormsAt w) : ∀ j, j < tabA.size → w.cell? ⟨0, 0 + j, none⟩ = tabA[j]? := fun j hj => by
  rw [tab_len] at hj
  rw [Nat.zero_add]
  unfold tabA
  rw [List.getElem?_toArray]
  have hf := tab_flat formTab (j / 2)
  obtain ⟨p, hp⟩ : ∃ p, formTab[j / 2]? = some p := ⟨_, List.getElem?_eq_getElem (by show j / 2 < 29; omega)⟩
  obtain ⟨h1, h2⟩ := h _ p hp
  rcases Nat.mod_two_eq_zero_or_one j with h0 | h0
  · have e : j / 2 * 2 = j := by omega
    rw [e] at hf h1
    rw [hf.1, hp, h1]; rfl
  · have e : j / 2 * 2 + 1 = j := by omega
    rw [e] at hf h2
    rw [hf.2, hp, h2]; rfl
theorem tab_index : ∀ (k : Nat) (p : List UInt8 × List UInt8), formTab[k]? = some p → ∀ w, (Instr.index 242 (.agg tabA) (.int .i64 (k : Int))).run Tryz.prog w = .ok (.agg #[.string (bs p.1), .string (bs p.2)]) w
  | 0, p, h, w => by cases h; kernel_rfl
  | 1, p, h, w => by cases h; kernel_rfl
  | 2, p, h, w => by cases h; kernel_rfl
  | 3, p, h, w => by cases h; kernel_rfl
  | 4, p, h, w => by cases h; kernel_rfl
  | 5, p, h, w => by cases h; kernel_rfl
  | 6, p, h, w => by cases h; kernel_rfl
  | 7, p, h, w => by cases h; kernel_rfl
  | 8, p, h, w => by cases h; kernel_rfl
  | 9, p, h, w => by cases h; kernel_rfl
  | 10, p, h, w => by cases h; kernel_rfl
  | 11, p, h, w => by cases h; kernel_rfl
  | 12, p, h, w => by cases h; kernel_rfl
  | 13, p, h, w => by cases h; kernel_rfl
  | 14, p, h, w => by cases h; kernel_rfl
  | 15, p, h, w => by cases h; kernel_rfl
  | 16, p, h, w => by cases h; kernel_rfl
  | 17, p, h, w => by cases h; kernel_rfl
  | 18, p, h, w => by cases h; kernel_rfl
  | 19, p, h, w => by cases h; kernel_rfl
  | 20, p, h, w => by cases h; kernel_rfl
  | 21, p, h, w => by cases h; kernel_rfl
  | 22, p, h, w => by cases h; kernel_rfl
  | 23, p, h, w => by cases h; kernel_rfl
  | 24, p, h, w => by cases h; kernel_rfl
  | 25, p, h, w => by cases h; kernel_rfl
  | 26, p, h, w => by cases h; kernel_rfl
  | 27, p, h, w => by cases h; kernel_rfl
  | 28, p, h, w => by cases h; kernel_rfl
  | k + 29, p, h, w => by
    rw [List.getElem?_eq_none (by show 29 ≤ k + 29; omega)] at h
    cases h

theorem box_set {w : World} {B : Nat} {cs : Array Value} {t : TypeId} (h : w.heap[B]? = some (.cells cs t (0, 0))) (i : Nat) (v : Value) : (w.setCell ⟨B, i, none⟩ v).heap[B]? = some (.cells (cs.setIfInBounds i v) t (0, 0)) := Go.Proofs.YtloeaihbnnnncaaGreatDoor.keep.heap_set h i v
def rowI (x : I) : Array Value := #[.int .i64 x.op, .int .i64 x.a, .int .i64 x.b, .string x.t, .string x.c, .string x.n]
theorem row_box {w : World} {B : Nat} {x : I} {t : TypeId} (h : w.heap[B]? = some (.cells (rowI x) t (0, 0))) : Box w B x := by
  refine ⟨?_, ?_, ?_, ?_, ?_, ?_⟩ <;> (rw [cell_of_row _ _ _ _ _ _ h]; rfl)
def Fine (x : I) : Prop := Small x ∧ InR x.a ∧ InR x.b

/-- what Parse answers -/
def ParseBy (w : World) (r : Option I) (e : Ending) (w' : World) : Prop := Below w.heap.size w w' ∧ match r with
  | some x => e = .returned (.tuple #[.agg (rowI x), .nilIface])
  | none => e = .returned (.tuple #[.agg #[.int .i64 0, .int .i64 0, .int .i64 0, .string { data := #[] }, .string { data := #[] }, .string { data := #[] }], .iface 58 (.int .i64 1)])
theorem parseBy_none {w w' : World} {r : Option I} (h : r = none) (hb : Below w.heap.size w w') : ParseBy w r (.returned (.tuple #[.agg #[.int .i64 0, .int .i64 0, .int .i64 0, .string { data := #[] }, .string { data := #[] }, .string { data := #[] }], .iface 58 (.int .i64 1)])) w' := by subst h; exact ⟨hb, rfl⟩
theorem parseBy_some {w w' : World} {r : Option I} {x : I} (h : r = some x) (hb : Below w.heap.size w w') : ParseBy w r (.returned (.tuple #[.agg (rowI x), .nilIface])) w' := by subst h; exact ⟨hb, rfl⟩
theorem parse_skip {s : List UInt8} {ws : List (List UInt8)} {k : Nat} (h : tryOp s ws k = none) (hk : k < 29) : parseL s ws ((List.range 29).drop k) = parseL s ws ((List.range 29).drop (k + 1)) := by
  rw [List.drop_eq_getElem_cons (by simpa using hk), List.getElem_range, parseL, h]
theorem parse_hit {s : List UInt8} {ws : List (List UInt8)} {k : Nat} {r : Option I} (h : tryOp s ws k = some r) (hk : k < 29) : parseL s ws ((List.range 29).drop k) = r := by
  rw [List.drop_eq_getElem_cons (by simpa using hk), List.getElem_range, parseL, h]
theorem parse_end {s : List UInt8} {ws : List (List UInt8)} : parseL s ws ((List.range 29).drop 29) = none := rfl
theorem words_short : ∀ (l : List UInt8), ∀ x ∈ wordsOf l, x.length ≤ l.length
  | [], x, h => by simp [wordsOf] at h; simp [h]
  | c :: r, x, h => by
    have ih := words_short r
    unfold wordsOf at h
    split at h
    · rcases List.mem_cons.1 h with rfl | h
      · simp
      · have := ih x h; simp; omega
    · split at h
      · simp at h; simp [h]
      · rename_i w ws he
        rw [he] at ih
        rcases List.mem_cons.1 h with rfl | h
        · have := ih w (List.mem_cons_self ..); simp; omega
        · have := ih x (List.mem_cons_of_mem _ h); simp; omega
theorem mag_small {l : List UInt8} {u : Nat} (h : Lib.parseMag l = .ok u) : u < 18446744073709551616 := Lib.parseMag_lt h
theorem num_in {l : List UInt8} {v : Int} (h : numOf l = some v) : InR v := by
  unfold numOf at h
  cases h2 : Lib.atoiAll l with
  | ok u =>
    rw [h2] at h
    cases h
    unfold Lib.atoiAll at h2
    split at h2
    · cases h2
    · simp only at h2
      split at h2
      · cases h2
      · cases h2
      · split at h2
        · cases h2
        · split at h2
          · cases h2
          · injection h2 with h2
            unfold InR
            split at h2 <;> omega
  | range => rw [h2] at h; cases h
  | _ => rw [h2] at h; cases h

theorem textF_any (x : I) (w : World) (hv : Vars w) (hx : Fine x) : Calls Tryz.prog 147 #[.agg (rowI x)] w fun e w' => Below w.heap.size w w' ∧ ∃ (T : ByteArray) (v : Value), e = .returned (.tuple #[.string T, v]) ∧ ((insFault x = 0 ∧ T = bs (textL x) ∧ v = .nilIface) ∨ (¬ insFault x = 0 ∧ ∃ t p, v = .iface t p)) := by
  obtain ⟨op, a, b, t, c, n⟩ := x
  obtain ⟨hs, ha, hb⟩ := hx
  by_cases h0 : insFault ⟨op, a, b, t, c, n⟩ = 0
  · exact (text_any op a b t c n w hv.forms hv.pow hs ha hb h0).mono fun e w' ⟨he, hb⟩ => ⟨hb, _, _, he, .inl ⟨h0, rfl, rfl⟩⟩
  · exact (text_bad op a b t c n w hv.forms hs.1 hs.2.1 hs.2.2 h0).mono fun e w' ⟨he, hb⟩ => ⟨hb, _, _, he, .inr ⟨h0, _, _, rfl⟩⟩
theorem in_zero : InR 0 := by unfold InR; decide
theorem fine_bare (k : Nat) : Fine (bareI k) := ⟨⟨Nat.zero_le _, Nat.zero_le _, Nat.zero_le _⟩, in_zero, in_zero⟩
theorem fine_set {x : I} (h : Fine x) {ch : UInt8} {wd : List UInt8} {v : Int} (hw : wd.length ≤ 10000000) (hv : InR v) : Fine (setF x ch wd v) := by
  obtain ⟨⟨h1, h2, h3⟩, h4, h5⟩ := h
  have h64 : wd.length ≤ 9223372036854775807 := by omega
  unfold setF
  repeat' split
  · exact ⟨⟨h1, h2, h3⟩, hv, h5⟩
  · exact ⟨⟨h1, h2, h3⟩, h4, hv⟩
  · exact ⟨⟨hw, h2, h3⟩, h4, h5⟩
  · exact ⟨⟨h1, h64, h3⟩, h4, h5⟩
  · exact ⟨⟨h1, h2, h64⟩, h4, h5⟩
theorem fields_next {nd : List UInt8} {ws : List (List UInt8)} {j : Nat} {x : I} (h1 : j < nd.length) (h2 : j < ws.length) : fieldsOf (nd.drop j) (ws.drop j) x = if nd[j] = 65 ∨ nd[j] = 66 then (match numOf ws[j] with
      | some v => fieldsOf (nd.drop (j + 1)) (ws.drop (j + 1)) (setF x nd[j] ws[j] v)
      | none => none) else fieldsOf (nd.drop (j + 1)) (ws.drop (j + 1)) (setF x nd[j] ws[j] 0) := by
  rw [List.drop_eq_getElem_cons h1, List.drop_eq_getElem_cons h2, fieldsOf]
  rfl
theorem try_no {s : List UInt8} {ws : List (List UInt8)} {k : Nat} {wd nd : List UInt8} (hp : formTab[k]? = some (wd, nd)) (h : ¬ some wd = ws.head? ∨ k = 0 ∨ ¬ ws.length = nd.length + 1) : tryOp s ws k = none := by
  unfold tryOp; rw [hp]; exact if_pos h
theorem try_yes {s : List UInt8} {ws : List (List UInt8)} {k : Nat} {wd nd : List UInt8} (hp : formTab[k]? = some (wd, nd)) (h1 : some wd = ws.head?) (h2 : ¬ k = 0) (h3 : ws.length = nd.length + 1) : tryOp s ws k = match fieldsOf nd ws.tail (bareI k) with
    | none => some none
    | some x => if insFault x = 0 ∧ textL x = s then some (some x) else none := by
  unfold tryOp; rw [hp]
  simp only
  rw [if_neg (by simp [h1, h2, h3])]
  rfl
theorem try_bad {s : List UInt8} {ws : List (List UInt8)} {k : Nat} {wd nd : List UInt8} (hp : formTab[k]? = some (wd, nd)) (h1 : some wd = ws.head?) (h2 : ¬ k = 0) (h3 : ws.length = nd.length + 1) (h4 : fieldsOf nd ws.tail (bareI k) = none) : tryOp s ws k = some none := by
  rw [try_yes hp h1 h2 h3, h4]
theorem try_hit {s : List UInt8} {ws : List (List UInt8)} {k : Nat} {wd nd : List UInt8} {x : I} (hp : formTab[k]? = some (wd, nd)) (h1 : some wd = ws.head?) (h2 : ¬ k = 0) (h3 : ws.length = nd.length + 1) (h4 : fieldsOf nd ws.tail (bareI k) = some x) (h5 : insFault x = 0 ∧ textL x = s) : tryOp s ws k = some (some x) := by
  rw [try_yes hp h1 h2 h3, h4]; exact if_pos h5
theorem try_miss {s : List UInt8} {ws : List (List UInt8)} {k : Nat} {wd nd : List UInt8} {x : I} (hp : formTab[k]? = some (wd, nd)) (h1 : some wd = ws.head?) (h2 : ¬ k = 0) (h3 : ws.length = nd.length + 1) (h4 : fieldsOf nd ws.tail (bareI k) = some x) (h5 : ¬ (insFault x = 0 ∧ textL x = s)) : tryOp s ws k = none := by
  rw [try_yes hp h1 h2 h3, h4]; exact if_neg h5

set_option maxRecDepth 100000 in
set_option maxHeartbeats 8000000 in
theorem parse_any (s : ByteArray) (w : World) (hv : Vars w) (hs : s.size ≤ 10000000) : Calls Tryz.prog 144 #[.string s] w (ParseBy w (parseW s.data.toList)) := by
  obtain ⟨ws, hws⟩ : ∃ q, wordsOf s.data.toList = q := ⟨_, rfl⟩
  obtain ⟨w0, wr0, hw0⟩ := words_cons s.data.toList
  rw [hws] at hw0
  have HSH : Hid (∀ x ∈ ws, x.length ≤ 10000000) := hid (fun x hx => by
    have := words_short s.data.toList x (hws ▸ hx)
    rw [size_len] at this; omega)
  obtain ⟨R, hR⟩ : ∃ R, parseW s.data.toList = R := ⟨_, rfl⟩
  have HR : Hid (R = parseL s.data.toList ws ((List.range 29).drop 0)) := hid (by rw [← hR, ← hws]; rfl)
  rw [hR]
  obtain ⟨X1, hX1⟩ : ∃ X1, w.alloc (.cells #[.int .i64 0, .int .i64 0, .int .i64 0, .string { data := #[] }, .string { data := #[] }, .string { data := #[] }] 61) = X1 := ⟨_, rfl⟩
  have HB1 : Hid (Below w.heap.size w X1) := hid (hX1 ▸ ext_alloc _ _)
  have HSP := hid (split_any s X1 (hv.below HB1.out) hs)
  rw [hws] at HSP
  obtain ⟨X2, hX2⟩ : ∃ X2, X1.alloc (.cells (ws.map sv).toArray 9) = X2 := ⟨_, rfl⟩
  rw [hX2] at HSP
  have H12 : Hid (Below X1.heap.size X1 X2) := hid (hX2 ▸ ext_alloc _ _)
  have HB2 := hid (HB1.out.trans (H12.out.mono HB1.out.size))
  have HRLT1 : w.heap.size < X1.heap.size := by rw [← hX1]; simp
  have HRES : Hid (X2.heap[w.heap.size]? = some (.cells #[.int .i64 0, .int .i64 0, .int .i64 0, .string { data := #[] }, .string { data := #[] }, .string { data := #[] }] 61 (0, 0))) := hid (by rw [H12.out.block _ HRLT1, ← hX1]; exact heap_alloc_new _ _)
  have HRLT : Hid (w.heap.size < X2.heap.size) := hid (Nat.lt_of_lt_of_le HRLT1 H12.out.size)
  have HV2 := hid (hv.below HB2.out)
  have HWR : X2.heap[X1.heap.size]? = some (.cells (ws.map sv).toArray 9 (0, 0)) := by rw [← hX2]; exact heap_alloc_new _ _
  have HWC : Hid (∀ u, Below X2.heap.size X2 u → ∀ (j : Nat) (x : List UInt8), ws[j]? = some x → u.cell? ⟨X1.heap.size, j, none⟩ = some (.string (bs x))) := hid (fun u hu j x hx => by
    have h1 : X1.heap.size < X2.heap.size := (Array.getElem?_eq_some_iff.1 HWR).1
    rw [cell_of_row _ _ _ _ _ _ ((hu.block _ h1).trans HWR), List.getElem?_toArray, List.getElem?_map, hx]; rfl)
  have HW0 := hid hw0
  obtain ⟨n, hn⟩ : ∃ n, ws.length = n := ⟨_, rfl⟩
  have HN := hid hn
  rw [hn] at HSP
  have hn1 : 0 < n := by rw [← hn, hw0]; simp
  have hn1i : (0 : Int) < (n : Int) := by omega
  clear hws hw0 hR hv hs hn HRLT1 HWR
  go_enter Tryz.func144, Tryz.ntmps144
  go_wp2_with fail
  refine HSP.out.mono ?_
  rintro e w' ⟨rfl, rfl⟩
  go_wp2_with (refine wpList_load_flat rfl 242 _ rfl 0 0 rfl tabA _ (tab_cell HV2.out.forms) Tryz.underlying242 rfl (by kernel_rfl) ?_)
  go_loopw [18] (fun i wr => ∃ k : Nat, k ≤ 29 ∧ i = .int .i64 k ∧ Hid (Below w'.heap.size w' wr) ∧ Hid (R = parseL s.data.toList ws ((List.range 29).drop k))) (fun i _ => 29 - (intOf i).toNat)
  case atStart => exact ⟨0, by decide, rfl, hid (Below.refl _ _), HR⟩
  case round =>
    obtain ⟨k, hk, rfl, HBR, HRK⟩ := hrel
    obtain ⟨wo, hwo⟩ : ∃ W, W = wr := ⟨_, rfl⟩
    subst hwo
    by_cases hlt : k < 29
    · obtain ⟨⟨wd, nd⟩, hp⟩ : ∃ p, formTab[k]? = some p := ⟨_, List.getElem?_eq_getElem (by show k < 29; exact hlt)⟩
      have hidx := tab_index k _ hp
      simp only at hidx
      have HPT := hid hp
      obtain ⟨hlet, hl3, hw20⟩ := letters_ok hp
      have HLET := hid hlet
      obtain ⟨Y3, hY3⟩ : ∃ Y, wo.alloc (.cells #[.string (bs wd), .string (bs nd)] 187) = Y := ⟨_, rfl⟩
      have HE3 : Hid (Below wo.heap.size wo Y3) := hid (hY3 ▸ ext_alloc _ _)
      have HY3 := hid (HBR.out.trans (HE3.out.mono HBR.out.size))
      have z0 : Y3.cell? ⟨wo.heap.size, 0, none⟩ = some (.string (bs wd)) := by rw [← hY3]; rw [World.cell?_alloc_at _ _ _ _ rfl]; rfl
      have z1 : Y3.cell? ⟨wo.heap.size, 1, none⟩ = some (.string (bs nd)) := by rw [← hY3]; rw [World.cell?_alloc_at _ _ _ _ rfl]; rfl
      have c0 : Y3.cell? ⟨X1.heap.size, 0, none⟩ = some (.string (bs w0)) := HWC.out Y3 HY3.out 0 w0 (by rw [HW0.out]; rfl)
      have k0 : (0 : Int) ≤ (k : Int) := by omega
      have k1 : (k : Int) < 29 := by omega
      have HND : Hid ((bs nd).size = nd.length) := hid rfl
      obtain ⟨m, hm⟩ : ∃ m, (bs nd).size = m := ⟨_, rfl⟩
      have HM := hid hm
      have hm3 : m ≤ 3 := by rw [← hm, HND.out]; exact hl3
      have hwr : IntKind.i64.wrap ((m : Int) + 1) = (m : Int) + 1 := by rw [IntKind.wrap_i64]; omega
      clear hp hlet hl3 hw20
      by_cases hwd : wd = w0
      · have e1 : ((bs wd).toList == (bs w0).toList) = true := by rw [hwd]; simp
        by_cases hk0 : k = 0
        · have e2 : ((k : Int) == 0) = true := by simp [hk0]
          have HSK := hid (HRK.out.trans (parse_skip (try_no HPT.out (.inr (.inl hk0))) hlt))
          clear hwd hk0
          go_wp2_with fail
          go_quiet (fail)
          go_wp2
          go_roundw
          case rel => exact ⟨k + 1, by omega, by go_num, hid (below_drewN HY3.out _), HSK⟩
          case measure => simp [intOf]; omega
        · have e2 : ((k : Int) == 0) = false := by simp; omega
          by_cases hln : n = m + 1
          · have e3 : ((n : Int) == (m : Int) + 1) = true := by simp; omega
            have e4 : ((n : Int) != (m : Int) + 1) = false := by simp; omega
            have HHD : Hid (some wd = ws.head?) := hid (by rw [HW0.out, hwd]; rfl)
            have HK0 := hid hk0
            have HLN : Hid (ws.length = nd.length + 1) := hid (by rw [HN.out, hln, ← HM.out, HND.out])
            clear hwd hk0 hln
            go_wp2_with fail
            go_quiet (fail)
            generalize hYq : World.drewN Y3 _ = Yq
            have HYQ : Hid (Below Y3.heap.size Y3 Yq) := hid (hYq ▸ below_drewN (Below.refl _ _) _)
            have HBQ := hid (HY3.out.trans (HYQ.out.mono HY3.out.size))
            have HLTQ := hid HBQ.out.size
            have hlt3 : wo.heap.size < Y3.heap.size := World.block_lt_of_cell? _ _ z0
            have z1q : Yq.cell? ⟨wo.heap.size, 1, none⟩ = some (.string (bs nd)) := (HYQ.out.cell hlt3).trans z1
            clear hYq z0 z1 c0 e1 e2 e3 e4 hidx hwr
            obtain ⟨Y4, hY4⟩ : ∃ Y, Yq.alloc (.cells #[.int .i64 (k : Int), .int .i64 0, .int .i64 0, .string { data := #[] }, .string { data := #[] }, .string { data := #[] }] 61) = Y := ⟨_, rfl⟩
            have HE4 : Hid (Below Yq.heap.size Yq Y4) := hid (hY4 ▸ ext_alloc _ _)
            have HB4 := hid (HBQ.out.trans (HE4.out.mono HBQ.out.size))
            have HR4 : Hid (Y4.heap[Yq.heap.size]? = some (.cells (rowI (bareI k)) 61 (0, 0))) := hid (by rw [← hY4]; exact heap_alloc_new _ _)
            have hs4 : Y4.heap.size = Yq.heap.size + 1 := by rw [← hY4]; simp
            have HLT4 : Hid (Yq.heap.size < Yq.heap.size + 1) := hid (Nat.lt_succ_self _)
            have z1w : Y4.cell? ⟨wo.heap.size, 1, none⟩ = some (.string (bs nd)) := (HE4.out.cell (World.block_lt_of_cell? _ _ z1q)).trans z1q
            have HRW : Hid ((Y4.iter (bs nd) 0).heap[Yq.heap.size + 1]? = some (.stringIter (bs nd) 0)) := hid (by rw [← hs4]; exact World.iter_heap _ _ _)
            have HBI : Hid (Below w'.heap.size w' (Y4.iter (bs nd) 0)) := hid (HB4.out.alloc HB4.out.size _)
            have HRI : Hid ((Y4.iter (bs nd) 0).heap[Yq.heap.size]? = some (.cells (rowI (bareI k)) 61 (0, 0))) := hid (((ext_alloc Y4 _).block _ (by rw [hs4]; exact HLT4.out)).trans HR4.out)
            rw [← hY4] at z1w HRW HBI HRI
            clear HR4 HE4 HB4 hs4 hY4 Y4
            clear z1q hlt3
            go_wp2_with fail
            go_loopg [9] nd.length (fun g v wr => ∃ (j : Nat) (x : I), j ≤ nd.length ∧ g = nd.length - j ∧ x.op = (k : Int) ∧ Hid (fieldsOf nd ws.tail (bareI k) = fieldsOf (nd.drop j) (ws.tail.drop j) x) ∧ Hid (wr.heap[(Yq.heap.size + 1)]? = some (.stringIter (bs nd) j)) ∧ Hid (Below w'.heap.size w' wr) ∧ Hid (wr.heap[Yq.heap.size]? = some (.cells (rowI x) 61 (0, 0))) ∧ Hid (Fine x))
            case atStart => exact ⟨0, bareI k, Nat.zero_le _, rfl, rfl, hid rfl, HRW, HBI, HRI, hid (fine_bare k)⟩
            case round =>
              obtain ⟨j, ⟨xo, xa, xb, xt, xc, xn⟩, hj, hgk, hxo, HFX, HIT, HBX, HRX, HFI⟩ := hrel
              obtain rfl : xo = (k : Int) := hxo
              have HGK := hid hgk
              clear hgk
              by_cases hjl : j < nd.length
              · have hjt : j < ws.tail.length := by rw [List.length_tail, HLN.out]; exact hjl
                have HFN := hid (fields_next (x := ⟨(k : Int), xa, xb, xt, xc, xn⟩) hjl hjt)
                have HCH := hid (HLET.out _ (List.getElem_mem hjl))
                have hnx := fun ty => next_at HIT.out hjl HCH.out ty
                obtain ⟨Y, hY⟩ : ∃ Y, wr.iterAt (Yq.heap.size + 1) (bs nd) (j + 1) = Y := ⟨_, rfl⟩
                have HYB : Hid (Below w'.heap.size w' Y) := hid (hY ▸ Lib.below_iterAt HBX.out (Nat.le_of_lt (Nat.lt_of_le_of_lt HLTQ.out HLT4.out)) _ _)
                have HYR : Hid (Y.heap[Yq.heap.size]? = some (.cells (rowI ⟨(k : Int), xa, xb, xt, xc, xn⟩) 61 (0, 0))) := hid (hY ▸ (Lib.iterAt_other _ _ _ _ _ (Nat.ne_of_lt HLT4.out)).trans HRX.out)
                have HYI : Hid (Y.heap[(Yq.heap.size + 1)]? = some (.stringIter (bs nd) (j + 1))) := hid (hY ▸ Lib.iterAt_heap _ _ _ _ _ HIT.out)
                rw [hY] at hnx
                have hwj : ws[j + 1]? = some ws.tail[j] := by
                  rw [← List.getElem?_tail, List.getElem?_eq_getElem hjt]
                have cj := HWC.out Y HYB.out (j + 1) _ hwj
                have HWJ := hid (HSH.out _ (List.mem_of_getElem? hwj))
                generalize ws.tail[j] = wj at HFN cj HWJ
                generalize nd[j] = ch at hnx HCH HFN
                have j0 : (0 : Int) ≤ (j : Int) := by omega
                have j1 : (j : Int) + 1 < (n : Int) := by have := HLN.out; have := HN.out; omega
                have j2 : 0 ≤ (j : Int) + 1 := by omega
                have j4 : (j : Int) ≤ 3 := by have := HND.out; have := HM.out; omega
                have j3 : ((j : Int) + 1).toNat = j + 1 := by omega
                clear hY hwj hjt
                rcases HCH.out with rfl | rfl | rfl | rfl | rfl
                · have HAT := hid (atoi_any (bs wj) Y (HV2.out.below HYB.out) (by rw [bs_size]; exact HWJ.out))
                  go_wp2_with fail
                  refine HAT.out.mono ?_
                  rintro e w6 ⟨hb6, he6⟩
                  have HB6 := hid (HYB.out.trans (hb6.mono HYB.out.size))
                  have HR6 := hid ((hb6.block _ (Array.getElem?_eq_some_iff.1 HYR.out).1).trans HYR.out)
                  have HI6 := hid ((hb6.block _ (Array.getElem?_eq_some_iff.1 HYI.out).1).trans HYI.out)
                  have HRS6 := hid ((HB6.out.block _ HRLT.out).trans HRES.out)
                  clear hb6
                  cases hnum : numOf wj with
                  | none =>
                    have HNF := hid (HFX.out.trans (HFN.out.trans (by rw [hnum])))
                    have HTB := hid (HRK.out.trans (parse_hit (try_bad HPT.out HHD.out HK0.out HLN.out HNF.out) hlt))
                    rw [show (bs wj).data.toList = wj from rfl, hnum] at he6
                    obtain ⟨n6, t6, p6, rfl⟩ := he6
                    clear hnum
                    go_wp2_with (refine wpList_store_row rfl 61 (.tmp 2) (.tmp 68) rfl w.heap.size #[.int .i64 0, .int .i64 0, .int .i64 0, .string { data := #[] }, .string { data := #[] }, .string { data := #[] }] rfl rfl 61 _ HRS6.out (by kernel_rfl) rfl (by simp [Value.oneCell']) ?_)
                    refine bodyPost_ret (results_cell_at rfl _ _ w.heap.size _ _ _ _ rfl (setRow_heap _ _ _ _ _ _ HRS6.out) Tryz.underlying61 rfl (by kernel_rfl)) rfl ?_
                    exact parseBy_none HTB.out (below_setRow (HB2.out.trans (HB6.out.mono HB2.out.size)) (Nat.le_refl _) _)
                  | some v =>
                    rw [show (bs wj).data.toList = wj from rfl, hnum] at he6
                    obtain rfl : e = .returned (.tuple #[.int .i64 v, .nilIface]) := he6
                    have HIN := hid (num_in hnum)
                    have HNF := hid (HFX.out.trans (HFN.out.trans (by rw [hnum])))
                    clear hnum
                    have q1 : w6.cell? ⟨Yq.heap.size, 1, none⟩ = some (.int .i64 xa) := by rw [cell_of_row _ _ _ _ _ _ HR6.out]; rfl
                    have qf : w6.frozen? ⟨Yq.heap.size, 1, none⟩ = false := frozen_of_row _ _ _ _ _ HR6.out
                    have HS7 := hid (box_set HR6.out 1 (.int .i64 v))
                    have HI7 : Hid ((w6.setCell ⟨Yq.heap.size, 1, none⟩ (.int .i64 v)).heap[(Yq.heap.size + 1)]? = some (.stringIter (bs nd) (j + 1))) := hid ((Below.heap_setCell w6 ⟨Yq.heap.size, 1, none⟩ (.int .i64 v) (Yq.heap.size + 1) (Nat.succ_ne_self _)).trans HI6.out)
                    have HB7 : Hid (Below w'.heap.size w' (w6.setCell ⟨Yq.heap.size, 1, none⟩ (.int .i64 v))) := hid (HB6.out.setCell (show w'.heap.size ≤ Yq.heap.size from HLTQ.out) _)
                    go_wp2_with fail
                    go_roundg (nd.length - (j + 1))
                    case measure => have := HGK.out; omega
                    case rel => exact ⟨j + 1, setF ⟨(k : Int), xa, xb, xt, xc, xn⟩ 65 wj v, by omega, rfl, rfl, HNF, HI7, HB7, HS7, hid (fine_set HFI.out HWJ.out HIN.out)⟩

                · have HAT := hid (atoi_any (bs wj) Y (HV2.out.below HYB.out) (by rw [bs_size]; exact HWJ.out))
                  go_wp2_with fail
                  refine HAT.out.mono ?_
                  rintro e w6 ⟨hb6, he6⟩
                  have HB6 := hid (HYB.out.trans (hb6.mono HYB.out.size))
                  have HR6 := hid ((hb6.block _ (Array.getElem?_eq_some_iff.1 HYR.out).1).trans HYR.out)
                  have HI6 := hid ((hb6.block _ (Array.getElem?_eq_some_iff.1 HYI.out).1).trans HYI.out)
                  have HRS6 := hid ((HB6.out.block _ HRLT.out).trans HRES.out)
                  clear hb6
                  cases hnum : numOf wj with
                  | none =>
                    have HNF := hid (HFX.out.trans (HFN.out.trans (by rw [hnum])))
                    have HTB := hid (HRK.out.trans (parse_hit (try_bad HPT.out HHD.out HK0.out HLN.out HNF.out) hlt))
                    rw [show (bs wj).data.toList = wj from rfl, hnum] at he6
                    obtain ⟨n6, t6, p6, rfl⟩ := he6
                    clear hnum
                    go_wp2_with (refine wpList_store_row rfl 61 (.tmp 2) (.tmp 68) rfl w.heap.size #[.int .i64 0, .int .i64 0, .int .i64 0, .string { data := #[] }, .string { data := #[] }, .string { data := #[] }] rfl rfl 61 _ HRS6.out (by kernel_rfl) rfl (by simp [Value.oneCell']) ?_)
                    refine bodyPost_ret (results_cell_at rfl _ _ w.heap.size _ _ _ _ rfl (setRow_heap _ _ _ _ _ _ HRS6.out) Tryz.underlying61 rfl (by kernel_rfl)) rfl ?_
                    exact parseBy_none HTB.out (below_setRow (HB2.out.trans (HB6.out.mono HB2.out.size)) (Nat.le_refl _) _)
                  | some v =>
                    rw [show (bs wj).data.toList = wj from rfl, hnum] at he6
                    obtain rfl : e = .returned (.tuple #[.int .i64 v, .nilIface]) := he6
                    have HIN := hid (num_in hnum)
                    have HNF := hid (HFX.out.trans (HFN.out.trans (by rw [hnum])))
                    clear hnum
                    have q2 : w6.cell? ⟨Yq.heap.size, 2, none⟩ = some (.int .i64 xb) := by rw [cell_of_row _ _ _ _ _ _ HR6.out]; rfl
                    have qf : w6.frozen? ⟨Yq.heap.size, 2, none⟩ = false := frozen_of_row _ _ _ _ _ HR6.out
                    have HS7 := hid (box_set HR6.out 2 (.int .i64 v))
                    have HI7 : Hid ((w6.setCell ⟨Yq.heap.size, 2, none⟩ (.int .i64 v)).heap[(Yq.heap.size + 1)]? = some (.stringIter (bs nd) (j + 1))) := hid ((Below.heap_setCell w6 ⟨Yq.heap.size, 2, none⟩ (.int .i64 v) (Yq.heap.size + 1) (Nat.succ_ne_self _)).trans HI6.out)
                    have HB7 : Hid (Below w'.heap.size w' (w6.setCell ⟨Yq.heap.size, 2, none⟩ (.int .i64 v))) := hid (HB6.out.setCell (show w'.heap.size ≤ Yq.heap.size from HLTQ.out) _)
                    go_wp2_with fail
                    go_roundg (nd.length - (j + 1))
                    case measure => have := HGK.out; omega
                    case rel => exact ⟨j + 1, setF ⟨(k : Int), xa, xb, xt, xc, xn⟩ 66 wj v, by omega, rfl, rfl, HNF, HI7, HB7, HS7, hid (fine_set HFI.out HWJ.out HIN.out)⟩

                · have HIN := hid in_zero
                  have HNF := hid (HFX.out.trans HFN.out)
                  have q3 : Y.cell? ⟨Yq.heap.size, 3, none⟩ = some (.string xt) := by rw [cell_of_row _ _ _ _ _ _ HYR.out]; rfl
                  have qf : Y.frozen? ⟨Yq.heap.size, 3, none⟩ = false := frozen_of_row _ _ _ _ _ HYR.out
                  have HS7 := hid (box_set HYR.out 3 (.string (bs wj)))
                  have HI7 : Hid ((Y.setCell ⟨Yq.heap.size, 3, none⟩ (.string (bs wj))).heap[(Yq.heap.size + 1)]? = some (.stringIter (bs nd) (j + 1))) := hid ((Below.heap_setCell Y ⟨Yq.heap.size, 3, none⟩ (.string (bs wj)) (Yq.heap.size + 1) (Nat.succ_ne_self _)).trans HYI.out)
                  have HB7 : Hid (Below w'.heap.size w' (Y.setCell ⟨Yq.heap.size, 3, none⟩ (.string (bs wj)))) := hid (HYB.out.setCell (show w'.heap.size ≤ Yq.heap.size from HLTQ.out) _)
                  go_wp2_with fail
                  go_roundg (nd.length - (j + 1))
                  case measure => have := HGK.out; omega
                  case rel => exact ⟨j + 1, setF ⟨(k : Int), xa, xb, xt, xc, xn⟩ 84 wj 0, by omega, rfl, rfl, HNF, HI7, HB7, HS7, hid (fine_set HFI.out HWJ.out HIN.out)⟩

                · have HIN := hid in_zero
                  have HNF := hid (HFX.out.trans HFN.out)
                  have q4 : Y.cell? ⟨Yq.heap.size, 4, none⟩ = some (.string xc) := by rw [cell_of_row _ _ _ _ _ _ HYR.out]; rfl
                  have qf : Y.frozen? ⟨Yq.heap.size, 4, none⟩ = false := frozen_of_row _ _ _ _ _ HYR.out
                  have HS7 := hid (box_set HYR.out 4 (.string (bs wj)))
                  have HI7 : Hid ((Y.setCell ⟨Yq.heap.size, 4, none⟩ (.string (bs wj))).heap[(Yq.heap.size + 1)]? = some (.stringIter (bs nd) (j + 1))) := hid ((Below.heap_setCell Y ⟨Yq.heap.size, 4, none⟩ (.string (bs wj)) (Yq.heap.size + 1) (Nat.succ_ne_self _)).trans HYI.out)
                  have HB7 : Hid (Below w'.heap.size w' (Y.setCell ⟨Yq.heap.size, 4, none⟩ (.string (bs wj)))) := hid (HYB.out.setCell (show w'.heap.size ≤ Yq.heap.size from HLTQ.out) _)
                  go_wp2_with fail
                  go_roundg (nd.length - (j + 1))
                  case measure => have := HGK.out; omega
                  case rel => exact ⟨j + 1, setF ⟨(k : Int), xa, xb, xt, xc, xn⟩ 67 wj 0, by omega, rfl, rfl, HNF, HI7, HB7, HS7, hid (fine_set HFI.out HWJ.out HIN.out)⟩

                · have HIN := hid in_zero
                  have HNF := hid (HFX.out.trans HFN.out)
                  have q5 : Y.cell? ⟨Yq.heap.size, 5, none⟩ = some (.string xn) := by rw [cell_of_row _ _ _ _ _ _ HYR.out]; rfl
                  have qf : Y.frozen? ⟨Yq.heap.size, 5, none⟩ = false := frozen_of_row _ _ _ _ _ HYR.out
                  have HS7 := hid (box_set HYR.out 5 (.string (bs wj)))
                  have HI7 : Hid ((Y.setCell ⟨Yq.heap.size, 5, none⟩ (.string (bs wj))).heap[(Yq.heap.size + 1)]? = some (.stringIter (bs nd) (j + 1))) := hid ((Below.heap_setCell Y ⟨Yq.heap.size, 5, none⟩ (.string (bs wj)) (Yq.heap.size + 1) (Nat.succ_ne_self _)).trans HYI.out)
                  have HB7 : Hid (Below w'.heap.size w' (Y.setCell ⟨Yq.heap.size, 5, none⟩ (.string (bs wj)))) := hid (HYB.out.setCell (show w'.heap.size ≤ Yq.heap.size from HLTQ.out) _)
                  go_wp2_with fail
                  go_roundg (nd.length - (j + 1))
                  case measure => have := HGK.out; omega
                  case rel => exact ⟨j + 1, setF ⟨(k : Int), xa, xb, xt, xc, xn⟩ 78 wj 0, by omega, rfl, rfl, HNF, HI7, HB7, HS7, hid (fine_set HFI.out HWJ.out HIN.out)⟩

              · have hjs : ¬ j < (bs nd).size := hjl
                have hnx := fun ty => Lib.run_next_end_at (P := Tryz.prog) wr (Yq.heap.size + 1) (bs nd) j ty HIT.out hjs
                have HFE : Hid (fieldsOf nd ws.tail (bareI k) = some ⟨(k : Int), xa, xb, xt, xc, xn⟩) := hid (by
                  rw [HFX.out, List.drop_eq_nil_of_le (by omega)]; rfl)
                obtain ⟨x0, x1, x2, x3, x4, x5⟩ := row_box HRX.out
                simp only at x0 x1 x2 x3 x4 x5
                clear hjs
                go_wp2_with fail
                refine (textF_any ⟨(k : Int), xa, xb, xt, xc, xn⟩ _ (HV2.out.below HBX.out) HFI.out).mono ?_
                rintro e w8 ⟨hb8, T, vT, rfl, hT⟩
                have HB8 := hid (HBX.out.trans (hb8.mono HBX.out.size))
                have HR8 := hid ((hb8.block _ (Array.getElem?_eq_some_iff.1 HRX.out).1).trans HRX.out)
                have HRS8 := hid ((HB8.out.block _ HRLT.out).trans HRES.out)
                clear hb8 x0 x1 x2 x3 x4 x5
                obtain ⟨x0, x1, x2, x3, x4, x5⟩ := row_box HR8.out
                simp only at x0 x1 x2 x3 x4 x5
                rcases hT with ⟨h0, rfl, rfl⟩ | ⟨h0, tt, pp, rfl⟩
                · by_cases hts : textL ⟨(k : Int), xa, xb, xt, xc, xn⟩ = s.data.toList
                  · have HTB := hid (HRK.out.trans (parse_hit (try_hit HPT.out HHD.out HK0.out HLN.out HFE.out ⟨h0, hts⟩) hlt))
                    have he : ((bs (textL ⟨(k : Int), xa, xb, xt, xc, xn⟩)).toList == s.toList) = true := by rw [ByteArray.toList_eq, ByteArray.toList_eq]; show (textL _ == _) = true; rw [hts]; simp
                    clear hts h0
                    go_wp2_with (refine wpList_store_row rfl 61 (.tmp 2) (.tmp 96) rfl w.heap.size #[.int .i64 (k : Int), .int .i64 xa, .int .i64 xb, .string xt, .string xc, .string xn] rfl rfl 61 _ HRS8.out (by kernel_rfl) rfl (by simp [Value.oneCell']) ?_)
                    refine bodyPost_ret (results_cell_at rfl _ _ w.heap.size _ _ _ _ rfl (setRow_heap _ _ _ _ _ _ HRS8.out) Tryz.underlying61 rfl (by kernel_rfl)) rfl ?_
                    exact parseBy_some HTB.out (below_setRow (HB2.out.trans (HB8.out.mono HB2.out.size)) (Nat.le_refl _) _)
                  · have HSK := hid (HRK.out.trans (parse_skip (try_miss HPT.out HHD.out HK0.out HLN.out HFE.out (fun h => hts h.2)) hlt))
                    have he : ((bs (textL ⟨(k : Int), xa, xb, xt, xc, xn⟩)).toList == s.toList) = false := by rw [ByteArray.toList_eq, ByteArray.toList_eq]; show (textL _ == _) = false; simpa using hts
                    clear hts h0
                    go_wp2
                    go_roundw
                    case rel => exact ⟨k + 1, by omega, by go_num, HB8, HSK⟩
                    case measure => simp [intOf]; omega
                · have HSK := hid (HRK.out.trans (parse_skip (try_miss HPT.out HHD.out HK0.out HLN.out HFE.out (fun h => h0 h.1)) hlt))
                  clear h0
                  go_wp2
                  go_roundw
                  case rel => exact ⟨k + 1, by omega, by go_num, HB8, HSK⟩
                  case measure => simp [intOf]; omega
          · have e3 : ((n : Int) == (m : Int) + 1) = false := by simp; omega
            have e4 : ((n : Int) != (m : Int) + 1) = true := bne_iff_ne.2 (by omega)
            have HSK := hid (HRK.out.trans (parse_skip (try_no HPT.out (.inr (.inr (by rw [HN.out, ← HND.out, HM.out]; exact hln)))) hlt))
            clear hwd hk0 hln
            go_wp2_with fail
            go_quiet (fail)
            go_wp2
            go_roundw
            case rel => exact ⟨k + 1, by omega, by go_num, hid (below_drewN HY3.out _), HSK⟩
            case measure => simp [intOf]; omega
      · have e1 : ((bs wd).toList == (bs w0).toList) = false := by rw [ByteArray.toList_eq, ByteArray.toList_eq]; show (wd == w0) = false; simpa using hwd
        have HSK := hid (HRK.out.trans (parse_skip (try_no HPT.out (.inl (by rw [HW0.out]; intro h; exact hwd (Option.some.inj h)))) hlt))
        clear hwd
        go_wp2_with fail
        go_quiet (fail)
        go_wp2
        go_roundw
        case rel => exact ⟨k + 1, by omega, by go_num, hid (below_drewN HY3.out _), HSK⟩
        case measure => simp [intOf]; omega
    · obtain rfl : k = 29 := by omega
      have HTB := hid (HRK.out.trans parse_end)
      have HRS := hid ((HBR.out.block _ HRLT.out).trans HRES.out)
      go_wp2_with (refine wpList_store_row rfl 61 (.tmp 2) (.tmp 98) rfl w.heap.size #[.int .i64 0, .int .i64 0, .int .i64 0, .string { data := #[] }, .string { data := #[] }, .string { data := #[] }] rfl rfl 61 _ HRS.out (by kernel_rfl) rfl (by simp [Value.oneCell']) ?_)
      refine bodyPost_ret (results_cell_at rfl _ _ w.heap.size _ _ _ _ rfl (setRow_heap _ _ _ _ _ _ HRS.out) Tryz.underlying61 rfl (by kernel_rfl)) rfl ?_
      exact parseBy_none HTB.out (below_setRow (HB2.out.trans (HBR.out.mono HB2.out.size)) (Nat.le_refl _) _)

end Go.Proofs.YtloeaihbnnnncaaGreatDoor.txts
