/- A text read as an instruction: words, fields, plainly; strings.Split at a space, strconv.Atoi. Conditions: the variables that the library reads hold what they hold at the start; the text is not long. -/
import Derived.Test.YtloeaihbnnnncaaGreatDoorTxt4
import Derived.Lib.SplitLaws
import Derived.Lib.AtoiAllMem
import Derived.Lib.AtoiErrMem
import Derived.Lib.IndexBytes
set_option linter.unusedSimpArgs false
set_option linter.unusedVariables false
namespace Go.Proofs.YtloeaihbnnnncaaGreatDoor.txts
open Go.RowKit Go.Proofs.YtloeaihbnnnncaaGreatDoor.lib Go.Proofs.YtloeaihbnnnncaaGreatDoor.errs Go.Proofs.YtloeaihbnnnncaaGreatDoor.names Go.Proofs.YtloeaihbnnnncaaGreatDoor.descs Go.Proofs.YtloeaihbnnnncaaGreatDoor.ins Go.Proofs.YtloeaihbnnnncaaGreatDoor.nums Go.Proofs.YtloeaihbnnnncaaGreatDoor.flows

/-- a text cut at its spaces -/
def wordsOf : List UInt8 → List (List UInt8)
  | [] => [[]]
  | c :: r => if c = 32 then [] :: wordsOf r else match wordsOf r with
    | [] => [[c]]
    | w :: ws => (c :: w) :: ws
theorem words_cons (l : List UInt8) : ∃ w ws, wordsOf l = w :: ws := by
  cases l with
  | nil => exact ⟨_, _, rfl⟩
  | cons c r =>
    unfold wordsOf
    split
    · exact ⟨_, _, rfl⟩
    · split <;> exact ⟨_, _, rfl⟩
theorem index_hit (r : List UInt8) : Lib.index (32 :: r) [32] = 0 := by rw [Lib.index_one]; rfl
theorem index_next {c : UInt8} (r : List UInt8) (h : ¬ c = 32) : Lib.index (c :: r) [32] = if Lib.index r [32] = -1 then -1 else Lib.index r [32] + 1 := by
  rw [Lib.index_one, Lib.index_one, Lib.indexByte, if_neg (by simpa using h)]
  by_cases e : Lib.indexByte r 32 = -1
  · rw [if_pos (by simpa using e), if_pos e]
  · rw [if_neg (by simpa using e), if_neg e]
theorem index_ge (r : List UInt8) : -1 ≤ Lib.index r [32] := by rw [Lib.index_one]; exact Lib.indexByte_ge _ _
theorem split_words : ∀ l : List UInt8, Lib.splitK [32] 0 (l.count 32) l = wordsOf l
  | [] => rfl
  | c :: r => by
    have ih := split_words r
    by_cases h : c = 32
    · subst h
      rw [List.count_cons_self, Lib.splitK, index_hit, if_neg (by decide)]
      show [] :: Lib.splitK [32] 0 (r.count 32) r = _
      rw [ih, wordsOf, if_pos rfl]
    · rw [List.count_cons_of_ne (by simpa using h), wordsOf, if_neg h, ← ih]
      cases hk : r.count 32 with
      | zero => rfl
      | succ k =>
        have hg := index_ge r
        rw [Lib.splitK, Lib.splitK, index_next r h]
        by_cases e : Lib.index r [32] = -1
        · rw [if_pos e, if_pos (by decide), if_pos (by simpa using e)]
        · rw [if_neg e, if_neg (by simp; omega), if_neg (by simpa using e)]
          simp only
          rw [show (Lib.index r [32] + 1).toNat + 0 = ((Lib.index r [32]).toNat + 0) + 1 by omega, List.take_succ_cons, show (Lib.index r [32] + 1).toNat + ([32] : List UInt8).length = ((Lib.index r [32]).toNat + ([32] : List UInt8).length) + 1 by omega, List.drop_succ_cons]
          rfl

/-- the variables that the library reads -/
structure Vars (w : World) : Prop where
  forms : FormsAt w
  pow : Pow w
  max : ∃ m : Int, w.cell? ⟨1, 0, none⟩ = some (.int .i64 m)
  es : ∃ tp p, w.var? Tryz.prog "strconv.ErrSyntax" = some #[.iface tp p]
  er : ∃ tp p, w.var? Tryz.prog "strconv.ErrRange" = some #[.iface tp p]
theorem var_later {w w' : World} {n : String} {cs : Array Value} (hb : Below w.heap.size w w') (h : w.var? Tryz.prog n = some cs) : w'.var? Tryz.prog n = some cs := by
  unfold World.var? at *
  cases hg : Tryz.prog.globalNamed n with
  | none => rw [hg] at h; cases h
  | some g =>
    rw [hg] at h
    simp only [Option.bind_some] at h ⊢
    cases hw : w.heap[g]? with
    | none => rw [hw] at h; cases h
    | some o => rw [hb.block g (Array.getElem?_eq_some_iff.1 hw).1, hw]; rw [hw] at h; exact h
theorem Vars.below {w w' : World} (h : Vars w) (hb : Below w.heap.size w w') : Vars w' := by
  obtain ⟨m, hm⟩ := h.max
  obtain ⟨t1, p1, h1⟩ := h.es
  obtain ⟨t2, p2, h2⟩ := h.er
  exact ⟨h.forms.below hb, h.pow.below hb, ⟨m, (hb.cell (World.block_lt_of_cell? _ _ hm)).trans hm⟩, ⟨t1, p1, var_later hb h1⟩, ⟨t2, p2, var_later hb h2⟩⟩

theorem countB_sp (s : ByteArray) : Lib.countB s { data := #[32] } = s.data.toList.count 32 := by
  show Lib.count s.data.toList [32] = _
  exact Lib.count_one 32 _
/-- strings.Split at a space -/
theorem split_any (s : ByteArray) (w : World) (hv : Vars w) (hs : s.size ≤ 10000000) : Calls Tryz.prog 38 #[.string s, .string { data := #[32] }] w fun e w' =>
    e = .returned (.slice (some ⟨w.heap.size, 0, none⟩) (wordsOf s.data.toList).length (wordsOf s.data.toList).length) ∧ w' = w.alloc (.cells ((wordsOf s.data.toList).map sv).toArray 9) := by
  obtain ⟨m, hm⟩ := hv.max
  refine (Tryz.strings_Split s { data := #[32] } m w (by omega) hm (by decide)).mono ?_
  have hall := Lib.splitB_all { data := #[32] } (by decide) 0 _ s rfl
  have hd := Lib.splitB_data { data := #[32] } 0 (Lib.countB s { data := #[32] }) s
  rw [countB_sp] at hall hd ⊢
  have hd2 : (Lib.splitB { data := #[32] } 0 (s.data.toList.count 32) s).map (·.data.toList) = wordsOf s.data.toList := hd.trans (split_words _)
  have hl : (wordsOf s.data.toList).length = s.data.toList.count 32 + 1 := by rw [← hd2, List.length_map, hall]
  have hc : (Lib.splitB { data := #[32] } 0 (s.data.toList.count 32) s).map Value.string = (wordsOf s.data.toList).map sv := by
    rw [← hd2, List.map_map]
    apply List.map_congr_left
    intro x _
    rfl
  rintro e w' ⟨rfl, rfl⟩
  exact ⟨by rw [hl], by rw [hc]⟩

/-- a decimal numeral's number -/
def numOf (l : List UInt8) : Option Int := match Lib.atoiAll l with
  | .ok v => some v
  | _ => none
def AtoiBy (w : World) (l : List UInt8) (e : Ending) (w' : World) : Prop := Below w.heap.size w w' ∧ match numOf l with
  | some v => e = .returned (.tuple #[.int .i64 v, .nilIface])
  | none => ∃ n t p, e = .returned (.tuple #[.int .i64 n, .iface t p])
theorem atoi_any (s : ByteArray) (w : World) (hv : Vars w) (hs : s.size ≤ 10000000) : Calls Tryz.prog 191 #[.string s] w (AtoiBy w s.data.toList) := by
  by_cases h : ∃ v, Lib.atoiAll s.data.toList = .ok v
  · obtain ⟨v, h⟩ := h
    refine (Tryz.strconv_Atoi_ok s (by omega) v h w).mono ?_
    rintro e w' ⟨rfl, hw⟩
    have hn : numOf s.data.toList = some v := by unfold numOf; rw [h]
    unfold AtoiBy
    rw [hn]
    refine ⟨?_, rfl⟩
    rcases hw with rfl | ⟨t, rfl⟩
    · exact Below.refl _ _
    · exact Lib.bytesWorld_below _ _ _
  · have hn : numOf s.data.toList = none := by
      unfold numOf
      cases h2 : Lib.atoiAll s.data.toList with
      | ok v => exact absurd ⟨v, h2⟩ h
      | _ => rfl
    unfold AtoiBy
    rw [hn]
    by_cases hr : Lib.atoiAll s.data.toList = .range
    · obtain ⟨tp, p, hvar⟩ := hv.er
      refine (Tryz.strconv_Atoi_range_var s (by omega) hr tp p w hvar).mono ?_
      rintro e w' ⟨N, rfl, _, _, hb⟩
      exact ⟨hb, _, _, _, rfl⟩
    · obtain ⟨tp, p, hvar⟩ := hv.es
      refine (Tryz.strconv_Atoi_bad_var s (by omega) (fun v hv => h ⟨v, hv⟩) hr tp p w hvar).mono ?_
      rintro e w' ⟨N, rfl, _, _, hb⟩
      exact ⟨hb, _, _, _, rfl⟩

/-- a field set, by its letter -/
def setF (x : I) (ch : UInt8) (wd : List UInt8) (n : Int) : I := if ch = 65 then { x with a := n } else if ch = 66 then { x with b := n } else if ch = 84 then { x with t := bs wd } else if ch = 67 then { x with c := bs wd } else { x with n := bs wd }
/-- fields off words -/
def fieldsOf : List UInt8 → List (List UInt8) → I → Option I
  | ch :: nd, wd :: ws, x => if ch = 65 ∨ ch = 66 then (match numOf wd with
      | some v => fieldsOf nd ws (setF x ch wd v)
      | none => none) else fieldsOf nd ws (setF x ch wd 0)
  | _, _, x => some x
def bareI (k : Nat) : I := ⟨(k : Int), 0, 0, bs [], bs [], bs []⟩
/-- one kind tried: none: it is another's text; some none: it is no text -/
def tryOp (s : List UInt8) (ws : List (List UInt8)) (k : Nat) : Option (Option I) := match formTab[k]? with
  | none => none
  | some (wd, nd) => if ¬ some wd = ws.head? ∨ k = 0 ∨ ¬ ws.length = nd.length + 1 then none else match fieldsOf nd ws.tail (bareI k) with
    | none => some none
    | some x => if insFault x = 0 ∧ textL x = s then some (some x) else none
def parseL (s : List UInt8) (ws : List (List UInt8)) : List Nat → Option I
  | [] => none
  | k :: ks => match tryOp s ws k with
    | some r => r
    | none => parseL s ws ks
/-- the instruction of a text -/
def parseW (s : List UInt8) : Option I := parseL s (wordsOf s) (List.range 29)
end Go.Proofs.YtloeaihbnnnncaaGreatDoor.txts
