/- Texts cut at a byte, in plain words; strings.Split at one byte. Conditions: the variables that the library reads hold what they hold at the start; the text is not long. -/
import Derived.Test.YtloeaihbnnnncaaGreatDoorPrs1
import Derived.Test.YtloeaihbnnnncaaGreatDoorBack1
import Derived.Test.YtloeaihbnnnncaaGreatDoorNum1
import Derived.Test.YtloeaihbnnnncaaGreatDoorErrV
import Derived.Test.YtloeaihbnnnncaaGreatDoorOwn
import Derived.Defers
import Derived.Recover
import Derived.Test.YtloeaihbnnnncaaGreatDoorWld4
import Derived.Test.YtloeaihbnnnncaaGreatDoorGrow
import Derived.Laws.EntriesVeiled
set_option linter.unusedSimpArgs false
set_option linter.unusedVariables false
namespace Go.Proofs.YtloeaihbnnnncaaGreatDoor.txts
open Go.RowKit Go.Proofs.YtloeaihbnnnncaaGreatDoor.lib Go.Proofs.YtloeaihbnnnncaaGreatDoor.errs Go.Proofs.YtloeaihbnnnncaaGreatDoor.names Go.Proofs.YtloeaihbnnnncaaGreatDoor.descs Go.Proofs.YtloeaihbnnnncaaGreatDoor.ins Go.Proofs.YtloeaihbnnnncaaGreatDoor.nums Go.Proofs.YtloeaihbnnnncaaGreatDoor.flows

/-- a text cut at each c -/
def cutsOf (c : UInt8) : List UInt8 → List (List UInt8)
  | [] => [[]]
  | x :: r => if x = c then [] :: cutsOf c r else match cutsOf c r with
    | [] => [[x]]
    | w :: ws => (x :: w) :: ws
theorem cuts_cons (c : UInt8) (l : List UInt8) : ∃ w ws, cutsOf c l = w :: ws := by
  cases l with
  | nil => exact ⟨_, _, rfl⟩
  | cons x r =>
    unfold cutsOf
    split
    · exact ⟨_, _, rfl⟩
    · split <;> exact ⟨_, _, rfl⟩
theorem cuts_words (l : List UInt8) : cutsOf 32 l = wordsOf l := by
  induction l with
  | nil => rfl
  | cons x r ih => unfold cutsOf wordsOf; rw [ih]; rfl
theorem cindex_hit (c : UInt8) (r : List UInt8) : Lib.index (c :: r) [c] = 0 := by rw [Lib.index_one, Lib.indexByte, if_pos (by simp)]
theorem cindex_next {c x : UInt8} (r : List UInt8) (h : ¬ x = c) : Lib.index (x :: r) [c] = if Lib.index r [c] = -1 then -1 else Lib.index r [c] + 1 := by
  rw [Lib.index_one, Lib.index_one, Lib.indexByte, if_neg (by simpa using h)]
  by_cases e : Lib.indexByte r c = -1
  · rw [if_pos (by simpa using e), if_pos e]
  · rw [if_neg (by simpa using e), if_neg e]
theorem cindex_ge (c : UInt8) (r : List UInt8) : -1 ≤ Lib.index r [c] := by rw [Lib.index_one]; exact Lib.indexByte_ge _ _
theorem split_cuts (c : UInt8) : ∀ l : List UInt8, Lib.splitK [c] 0 (l.count c) l = cutsOf c l
  | [] => rfl
  | x :: r => by
    have ih := split_cuts c r
    by_cases h : x = c
    · subst h
      rw [List.count_cons_self, Lib.splitK, cindex_hit, if_neg (by decide)]
      show [] :: Lib.splitK [x] 0 (r.count x) r = _
      rw [ih, cutsOf, if_pos rfl]
    · rw [List.count_cons_of_ne (by simpa using h), cutsOf, if_neg h, ← ih]
      cases hk : r.count c with
      | zero => rfl
      | succ k =>
        have hg := cindex_ge c r
        rw [Lib.splitK, Lib.splitK, cindex_next r h]
        by_cases e : Lib.index r [c] = -1
        · rw [if_pos e, if_pos (by decide), if_pos (by simpa using e)]
        · rw [if_neg e, if_neg (by simp; omega), if_neg (by simpa using e)]
          simp only
          rw [show (Lib.index r [c] + 1).toNat + 0 = ((Lib.index r [c]).toNat + 0) + 1 by omega, List.take_succ_cons, show (Lib.index r [c] + 1).toNat + ([c] : List UInt8).length = ((Lib.index r [c]).toNat + ([c] : List UInt8).length) + 1 by omega, List.drop_succ_cons]
          rfl
theorem cuts_len (c : UInt8) : ∀ l : List UInt8, (cutsOf c l).length = l.count c + 1
  | [] => rfl
  | x :: r => by
    have ih := cuts_len c r
    by_cases h : x = c
    · subst h
      rw [List.count_cons_self, cutsOf, if_pos rfl, List.length_cons, ih]
    · rw [List.count_cons_of_ne (by simpa using h), cutsOf, if_neg h]
      obtain ⟨w, ws, hw⟩ := cuts_cons c r
      rw [hw] at ih ⊢
      simpa using ih
theorem cuts_append (c : UInt8) : ∀ a b : List UInt8, cutsOf c (a ++ c :: b) = cutsOf c a ++ cutsOf c b
  | [], b => by
    have h : cutsOf c (c :: b) = [] :: cutsOf c b := by rw [cutsOf]; exact if_pos rfl
    show cutsOf c (c :: b) = _
    rw [h]; rfl
  | x :: r, b => by
    have ih := cuts_append c r b
    rw [List.cons_append]
    by_cases h : x = c
    · rw [cutsOf, if_pos h, ih, cutsOf, if_pos h]; rfl
    · rw [cutsOf, if_neg h, ih, cutsOf, if_neg h]
      obtain ⟨w, ws, hw⟩ := cuts_cons c r
      rw [hw]; rfl
theorem cuts_none {c : UInt8} : ∀ {l : List UInt8}, c ∉ l → cutsOf c l = [l]
  | [], _ => rfl
  | x :: r, h => by
    rw [cutsOf, if_neg (fun e => h (by rw [e]; exact List.mem_cons_self ..)), cuts_none fun hm => h (List.mem_cons_of_mem _ hm)]
theorem cuts_small {c : UInt8} : ∀ {l w : List UInt8}, w ∈ cutsOf c l → w.length ≤ l.length ∧ ∀ x ∈ w, x ∈ l
  | [], w, h => by rw [List.mem_singleton.1 h]; exact ⟨Nat.le_refl _, fun _ h => h⟩
  | x :: r, w, h => by
    unfold cutsOf at h
    split at h
    · rcases List.mem_cons.1 h with rfl | h
      · exact ⟨Nat.zero_le _, fun _ h => absurd h List.not_mem_nil⟩
      · obtain ⟨h1, h2⟩ := cuts_small h
        exact ⟨by rw [List.length_cons]; omega, fun y hy => List.mem_cons_of_mem _ (h2 y hy)⟩
    · obtain ⟨v, vs, hv⟩ := cuts_cons c r
      rw [hv] at h
      rcases List.mem_cons.1 h with rfl | h
      · obtain ⟨h1, h2⟩ := cuts_small (l := r) (w := v) (c := c) (by rw [hv]; exact List.mem_cons_self ..)
        refine ⟨by simpa using h1, fun y hy => ?_⟩
        rcases List.mem_cons.1 hy with rfl | hy
        · exact List.mem_cons_self ..
        · exact List.mem_cons_of_mem _ (h2 y hy)
      · obtain ⟨h1, h2⟩ := cuts_small (l := r) (w := w) (c := c) (by rw [hv]; exact List.mem_cons_of_mem _ h)
        exact ⟨by rw [List.length_cons]; omega, fun y hy => List.mem_cons_of_mem _ (h2 y hy)⟩
theorem countB_c (s : ByteArray) (c : UInt8) : Lib.countB s { data := #[c] } = s.data.toList.count c := by
  show Lib.count s.data.toList [c] = _
  exact Lib.count_one c _
/-- strings.Split at one byte -/
theorem splitc_any (s : ByteArray) (c : UInt8) (w : World) (hv : Vars w) (hs : s.size ≤ 10000000) : Calls Tryz.prog 38 #[.string s, .string { data := #[c] }] w fun e w' =>
    e = .returned (.slice (some ⟨w.heap.size, 0, none⟩) (cutsOf c s.data.toList).length (cutsOf c s.data.toList).length) ∧ w' = w.alloc (.cells ((cutsOf c s.data.toList).map sv).toArray 9) := by
  obtain ⟨m, hm⟩ := hv.max
  refine (Tryz.strings_Split s { data := #[c] } m w (by omega) hm (by show 1 ≤ 1; decide)).mono ?_
  have hall := Lib.splitB_all { data := #[c] } (by show 1 ≤ 1; decide) 0 _ s rfl
  have hd := Lib.splitB_data { data := #[c] } 0 (Lib.countB s { data := #[c] }) s
  rw [countB_c] at hall hd ⊢
  have hd2 : (Lib.splitB { data := #[c] } 0 (s.data.toList.count c) s).map (·.data.toList) = cutsOf c s.data.toList := hd.trans (split_cuts c _)
  have hl : (cutsOf c s.data.toList).length = s.data.toList.count c + 1 := by rw [← hd2, List.length_map, hall]
  have hc : (Lib.splitB { data := #[c] } 0 (s.data.toList.count c) s).map Value.string = (cutsOf c s.data.toList).map sv := by
    rw [← hd2, List.map_map]
    apply List.map_congr_left
    intro x _
    rfl
  rintro e w' ⟨rfl, rfl⟩
  exact ⟨by rw [hl], by rw [hc]⟩
end Go.Proofs.YtloeaihbnnnncaaGreatDoor.txts

/- The desk in plain words. No condition. -/
set_option linter.unusedSimpArgs false
set_option linter.unusedVariables false
namespace Go.Proofs.YtloeaihbnnnncaaGreatDoor.desks
open Go.RowKit Go.Proofs.YtloeaihbnnnncaaGreatDoor.lib Go.Proofs.YtloeaihbnnnncaaGreatDoor.errs Go.Proofs.YtloeaihbnnnncaaGreatDoor.names Go.Proofs.YtloeaihbnnnncaaGreatDoor.descs Go.Proofs.YtloeaihbnnnncaaGreatDoor.ins Go.Proofs.YtloeaihbnnnncaaGreatDoor.nums Go.Proofs.YtloeaihbnnnncaaGreatDoor.flows Go.Proofs.YtloeaihbnnnncaaGreatDoor.txts

/-- the names of the errors -/
def errTab : List (List UInt8) := [[79, 75], [69, 114, 114, 70, 111, 114, 109], [69, 114, 114, 82, 97, 110, 103, 101], [69, 114, 114, 78, 111, 110, 101], [69, 114, 114, 70, 117, 108, 108], [69, 114, 114, 84, 119, 105, 99, 101], [69, 114, 114, 82, 111, 117, 110, 100], [69, 114, 114, 84, 121, 112, 101], [69, 114, 114, 83, 104, 97, 112, 101], [69, 114, 114, 82, 105, 103, 104, 116], [69, 114, 114, 70, 117, 101, 108], [69, 114, 114, 83, 116, 117, 99, 107], [69, 114, 114, 83, 121, 110, 116, 97, 120]]
def errName (z : Int) : List UInt8 := if z < 0 then [69, 114, 114, 110, 111] else (errTab[z.toNat]?).getD [69, 114, 114, 110, 111]
theorem errTab_len : errTab.length = 13 := rfl
/-- a numeral as it is written -/
def numW (l : List UInt8) : Option Int := match numOf l with
  | some n => if Lib.itoa n = l then some n else none
  | none => none
theorem numW_itoa {n : Int} (h : InR n) : numW (Lib.itoa n) = some n := by
  unfold numW
  rw [num_itoa h]
  simp
/-- num.Math: the error, the number -/
def mathF (t : List UInt8) (k a b : Int) : Int × Int :=
  if isWd t = false ∨ k < 1 ∨ 12 < k then (1, 0)
  else if (t = [73] ∧ (a ≠ wrap32 a ∨ b ≠ wrap32 b)) ∨ (9 ≤ k ∧ k ≤ 11 ∧ b ≠ wrap32 b) then (2, 0)
  else if (ofOf t k a b).2 = false then (3, 0) else (0, (ofOf t k a b).1)
def wClass : List UInt8 := [99, 108, 97, 115, 115]
def wIs : List UInt8 := [105, 115]
def wJoin : List UInt8 := [106, 111, 105, 110]
def wMath : List UInt8 := [109, 97, 116, 104]
def wIns : List UInt8 := [105, 110, 115]
def wFold : List UInt8 := [102, 111, 108, 100]
def wRun : List UInt8 := [114, 117, 110]
def wOk : List UInt8 := [111, 107]
def wYes : List UInt8 := [121, 101, 115]
def wNo : List UInt8 := [110, 111]
/-- the line of the command math -/
def mathLine (t : List UInt8) (k a b : Int) : List UInt8 := wMath ++ 32 :: (t ++ 32 :: (Lib.itoa k ++ 32 :: (Lib.itoa a ++ 32 :: Lib.itoa b)))
theorem math_words {t : List UInt8} (ht : isWd t = true) (k a b : Int) : wordsOf (mathLine t k a b) = [wMath, t, Lib.itoa k, Lib.itoa a, Lib.itoa b] := by
  unfold mathLine
  rw [words_app _ (by unfold NoSp wMath; simp), words_app _ (wd_sp ht), words_app _ (itoa_sp k), words_app _ (itoa_sp a), words_none (itoa_sp b)]
theorem itoa_nl (n : Int) : (10 : UInt8) ∉ Lib.itoa n := by
  unfold Lib.itoa
  split
  · intro h
    rcases List.mem_cons.1 h with h | h
    · exact absurd h (by decide)
    · have := digits_all _ _ h; exact absurd this.1 (by decide)
  · intro h
    have := digits_all _ _ h; exact absurd this.1 (by decide)
theorem math_nl {t : List UInt8} (ht : isWd t = true) (k a b : Int) : (10 : UInt8) ∉ mathLine t k a b := by
  have h1 := itoa_nl k
  have h2 := itoa_nl a
  have h3 := itoa_nl b
  simp only [isWd, decide_eq_true_eq] at ht
  unfold mathLine wMath
  rcases ht with rfl | rfl <;> simp [h1, h2, h3]
end Go.Proofs.YtloeaihbnnnncaaGreatDoor.desks

/- The names of errors: Errno.Error; num.Math. No condition. -/
set_option linter.unusedSimpArgs false
set_option linter.unusedVariables false
namespace Go.Proofs.YtloeaihbnnnncaaGreatDoor.desks
open Go.RowKit Go.Proofs.YtloeaihbnnnncaaGreatDoor.lib Go.Proofs.YtloeaihbnnnncaaGreatDoor.errs Go.Proofs.YtloeaihbnnnncaaGreatDoor.names Go.Proofs.YtloeaihbnnnncaaGreatDoor.descs Go.Proofs.YtloeaihbnnnncaaGreatDoor.ins Go.Proofs.YtloeaihbnnnncaaGreatDoor.nums Go.Proofs.YtloeaihbnnnncaaGreatDoor.flows Go.Proofs.YtloeaihbnnnncaaGreatDoor.txts

set_option maxRecDepth 100000 in
set_option maxHeartbeats 4000000 in
theorem error_any (z : Int) (w : World) : Calls Tryz.prog 39 #[.int .i64 z] w fun e w' => e = .returned (.string (bs (errName z))) ∧ Below w.heap.size w w' := by
  by_cases h0 : z < 0
  · have HZ : Hid (bs (errName z) = { data := #[69, 114, 114, 110, 111] }) := hid (by unfold errName; rw [if_pos h0]; rfl)
    go_enter Tryz.func39, Tryz.ntmps39
    go_wp2
    go_ret
    exact ⟨by rw [HZ.out]; rfl, ext_alloc _ _⟩
  · by_cases h1 : 13 ≤ z
    · have HZ : Hid (bs (errName z) = { data := #[69, 114, 114, 110, 111] }) := hid (by
        unfold errName; rw [if_neg h0, List.getElem?_eq_none (by rw [errTab_len]; omega)]; rfl)
      go_enter Tryz.func39, Tryz.ntmps39
      go_wp2
      go_ret
      exact ⟨by rw [HZ.out]; rfl, ext_alloc _ _⟩
    · have hz : z = 0 ∨ z = 1 ∨ z = 2 ∨ z = 3 ∨ z = 4 ∨ z = 5 ∨ z = 6 ∨ z = 7 ∨ z = 8 ∨ z = 9 ∨ z = 10 ∨ z = 11 ∨ z = 12 := by omega
      clear h0 h1
      rcases hz with rfl | rfl | rfl | rfl | rfl | rfl | rfl | rfl | rfl | rfl | rfl | rfl | rfl
      all_goals
        go_enter Tryz.func39, Tryz.ntmps39
        go_wp2
        go_ret
        exact ⟨rfl, ext_alloc _ _⟩

end Go.Proofs.YtloeaihbnnnncaaGreatDoor.desks

/- The desk's words: strings.Cut and SplitN at a space, desk.number, desk.must. Conditions: the variables that the library reads hold what they hold at the start; the text is not long. -/
set_option linter.unusedSimpArgs false
set_option linter.unusedVariables false
namespace Go.Proofs.YtloeaihbnnnncaaGreatDoor.desks
open Go.RowKit Go.Proofs.YtloeaihbnnnncaaGreatDoor.lib Go.Proofs.YtloeaihbnnnncaaGreatDoor.errs Go.Proofs.YtloeaihbnnnncaaGreatDoor.names Go.Proofs.YtloeaihbnnnncaaGreatDoor.descs Go.Proofs.YtloeaihbnnnncaaGreatDoor.ins Go.Proofs.YtloeaihbnnnncaaGreatDoor.nums Go.Proofs.YtloeaihbnnnncaaGreatDoor.flows Go.Proofs.YtloeaihbnnnncaaGreatDoor.txts

/-- what comes before the first space -/
def headW (l : List UInt8) : List UInt8 := (cutsOf 32 l).headD []
theorem cut_head : ∀ l : List UInt8, (Lib.cut l [32]).1 = headW l
  | [] => rfl
  | x :: r => by
    have ih := cut_head r
    unfold Lib.cut at ih ⊢
    by_cases h : x = 32
    · subst h
      rw [cindex_hit, if_pos (by decide)]
      unfold headW
      rw [cutsOf, if_pos rfl]; rfl
    · rw [cindex_next r h]
      unfold headW at ih ⊢
      rw [cutsOf, if_neg h]
      obtain ⟨w, ws, hw⟩ := cuts_cons 32 r
      rw [hw] at ih ⊢
      simp only [List.headD_cons] at ih ⊢
      have hg := cindex_ge 32 r
      by_cases e : Lib.index r [32] = -1
      · rw [if_pos e, if_neg (by decide)]
        rw [e, if_neg (by decide)] at ih
        simp only at ih ⊢
        rw [ih]
      · rw [if_neg e, if_pos (by omega)]
        rw [if_pos (by omega)] at ih
        simp only at ih ⊢
        rw [show (Lib.index r [32] + 1).toNat = (Lib.index r [32]).toNat + 1 by omega, List.take_succ_cons, ih]
theorem cut_any (s : ByteArray) (w : World) (hv : Vars w) (hs : s.size ≤ 10000000) : Calls Tryz.prog 76 #[.string s, .string { data := #[32] }] w fun e w' =>
    (∃ x y, e = .returned (.tuple #[.string (bs (headW s.data.toList)), x, y])) ∧ Below w.heap.size w w' := by
  obtain ⟨m, hm⟩ := hv.max
  refine (Tryz.strings_Cut s { data := #[32] } m w (by omega) hm).mono ?_
  have hcut : (Lib.cut s.data.toList ({ data := #[32] } : ByteArray).data.toList).1 = headW s.data.toList := cut_head _
  rw [hcut]
  rintro e w' ⟨he, n, rfl⟩
  exact ⟨⟨_, _, he⟩, below_drewN (Below.refl _ _) n⟩
theorem splitn_any (s : ByteArray) (w : World) (hv : Vars w) (hs : s.size ≤ 10000000) : Calls Tryz.prog 78 #[.string s, .string { data := #[32] }, .int .i64 (-1)] w fun e w' =>
    e = .returned (.slice (some ⟨w.heap.size, 0, none⟩) (cutsOf 32 s.data.toList).length (cutsOf 32 s.data.toList).length) ∧ w' = w.alloc (.cells ((cutsOf 32 s.data.toList).map sv).toArray 9) := by
  obtain ⟨m, hm⟩ := hv.max
  have hall := Lib.splitB_all { data := #[32] } (by show 1 ≤ 1; decide) 0 _ s rfl
  have hd := Lib.splitB_data { data := #[32] } 0 (Lib.countB s { data := #[32] }) s
  rw [countB_c] at hall hd
  have hd2 : (Lib.splitB { data := #[32] } 0 (s.data.toList.count 32) s).map (·.data.toList) = cutsOf 32 s.data.toList := hd.trans (split_cuts 32 _)
  have hl : (cutsOf 32 s.data.toList).length = s.data.toList.count 32 + 1 := by rw [← hd2, List.length_map, hall]
  have hc : (Lib.splitB { data := #[32] } 0 (s.data.toList.count 32) s).map Value.string = (cutsOf 32 s.data.toList).map sv := by
    rw [← hd2, List.map_map]
    apply List.map_congr_left
    intro x _
    rfl
  have hcnt : s.data.toList.count 32 ≤ s.size := by
    have := List.count_le_length (a := (32 : UInt8)) (l := s.data.toList)
    simpa using this
  have HG := Tryz.strings_genSplit s { data := #[32] } 0 (-1) (s.data.toList.count 32 + 1) m w (by omega) hm (by show 1 ≤ 1; decide) (by decide) (by decide) (by decide) (by
    rw [if_pos (by decide), countB_c]; omega)
  rw [show s.data.toList.count 32 + 1 - 1 = s.data.toList.count 32 from rfl] at HG
  have hcells : Lib.cellsOf (Lib.splitB { data := #[32] } 0 (s.data.toList.count 32) s) (s.data.toList.count 32 + 1) = ((cutsOf 32 s.data.toList).map sv).toArray := by
    unfold Lib.cellsOf
    rw [hc, hall]
    simp
  rw [hcells, hall, ← hl] at HG
  have HG' := hid HG
  obtain ⟨LL, hLL⟩ : ∃ q, (cutsOf 32 s.data.toList).length = q := ⟨_, rfl⟩
  obtain ⟨AA, hAA⟩ : ∃ q, ((cutsOf 32 s.data.toList).map sv).toArray = q := ⟨_, rfl⟩
  rw [hLL, hAA] at HG' ⊢
  clear HG hcells hcnt hc hl hd2 hd hall hLL hAA
  go_enter Tryz.func78, Tryz.ntmps78
  go_wp2_with fail
  refine HG'.out.mono ?_
  rintro e w' ⟨rfl, rfl⟩
  go_wp2_with fail
  go_ret
  exact ⟨rfl, rfl⟩

def pan12 : List PanicEntry := [{ v := .iface 58 (.int .i64 12), recovered := false }]
def panE (z : Int) : List PanicEntry := [{ v := .iface 58 (.int .i64 z), recovered := false }]
/-- what desk.number does -/
def numE : Option Int → Ending
  | some n => .returned (.int .i64 n)
  | none => .panicked (panE 12)
def NumBy (w : World) (l : List UInt8) (e : Ending) (w' : World) : Prop := e = numE (numW l) ∧ Below w.heap.size w w'
theorem bs_of (s : ByteArray) : bs s.data.toList = s := rfl
set_option maxRecDepth 100000 in
set_option maxHeartbeats 4000000 in
theorem number_any (s : ByteArray) (w : World) (hv : Vars w) (hs : s.size ≤ 10000000) : Calls Tryz.prog 139 #[.string s] w (NumBy w s.data.toList) := by
  have HA := hid (atoi_any s w hv hs)
  have HV := hid hv
  have HN : Hid (∀ r, numOf s.data.toList = r → numW s.data.toList = match r with | some n => if Lib.itoa n = s.data.toList then some n else none | none => none) := hid (fun r hr => by unfold numW; rw [hr]; try (cases r <;> rfl))
  have HIN : Hid (∀ n, numOf s.data.toList = some n → InR n) := hid (fun n h => num_in h)
  unfold NumBy
  obtain ⟨R, hR⟩ : ∃ R, numE (numW s.data.toList) = R := ⟨_, rfl⟩
  have HR0 := hid hR
  rw [hR]
  have HEQ : Hid (∀ n, ((bs (Lib.itoa n)).toList == s.toList) = decide (Lib.itoa n = s.data.toList)) := hid (fun n => by rw [ByteArray.toList_eq, ByteArray.toList_eq]; show (Lib.itoa n == s.data.toList) = _; rw [Bool.eq_iff_iff]; simp)
  clear hv hR hs
  go_enter Tryz.func139, Tryz.ntmps139
  go_wp2_with fail
  refine HA.out.mono ?_
  rintro e w1 ⟨hb1, he1⟩
  cases hn : numOf s.data.toList with
  | none =>
    rw [hn] at he1
    obtain ⟨n, t, p, rfl⟩ := he1
    have HR : Hid (R = .panicked (panE 12)) := hid (by rw [← HR0.out, HN.out _ hn]; rfl)
    have HB := hid hb1
    clear hn hb1
    go_wp2_with fail
    rw [HR.out]
    exact ⟨rfl, rfl, HB.out⟩
  | some n =>
    rw [hn] at he1
    obtain rfl : e = .returned (.tuple #[.int .i64 n, .nilIface]) := he1
    have HR : Hid (R = numE (if Lib.itoa n = s.data.toList then some n else none)) := hid (by rw [← HR0.out, HN.out _ hn])
    have HI := hid (itoa_any n w1 (HIN.out n hn) (HV.out.pow.below hb1))
    have HQ := hid (HEQ.out n)
    have HB := hid hb1
    clear hn hb1
    obtain ⟨X, hX⟩ : ∃ X, bs (Lib.itoa n) = X := ⟨_, rfl⟩
    rw [hX] at HI HQ
    clear hX
    go_wp2_with fail
    refine HI.out.mono ?_
    rintro e w2 ⟨rfl, hb2⟩
    have HB2 := hid (HB.out.trans (hb2.mono HB.out.size))
    clear hb2
    by_cases hq : Lib.itoa n = s.data.toList
    · have q1 : (X.toList == s.toList) = true := by rw [HQ.out]; simpa using hq
      have q2 : X.toList = s.toList := by simpa using q1
      have HR2 : Hid (R = .returned (.int .i64 n)) := hid (by rw [HR.out, if_pos hq]; rfl)
      clear hq
      go_wp2_with fail
      go_ret
      rw [HR2.out]
      exact ⟨rfl, HB2.out⟩
    · have q1 : (X.toList == s.toList) = false := by rw [HQ.out]; simpa using hq
      have q2 : ¬ X.toList = s.toList := by simpa using q1
      have HR2 : Hid (R = .panicked (panE 12)) := hid (by rw [HR.out, if_neg hq]; rfl)
      clear hq
      go_wp2_with fail
      rw [HR2.out]
      exact ⟨rfl, rfl, HB2.out⟩
set_option maxRecDepth 100000 in
theorem mustI_ok (n : Int) (w : World) : Calls Tryz.prog 141 #[.int .i64 n, .nilIface] w fun e w' => e = .returned (.int .i64 n) ∧ w' = w := by
  go_enter Tryz.func141, Tryz.ntmps141
  go_wp2_with fail
  go_ret
  exact ⟨rfl, rfl⟩
set_option maxRecDepth 100000 in
theorem mustI_err (n z : Int) (w : World) : Calls Tryz.prog 141 #[.int .i64 n, .iface 58 (.int .i64 z)] w fun e w' => e = .panicked (panE z) ∧ w' = w := by
  go_enter Tryz.func141, Tryz.ntmps141
  go_wp2_with fail
  exact ⟨rfl, rfl, rfl⟩
set_option maxRecDepth 100000 in
theorem mustB_ok (n : Bool) (w : World) : Calls Tryz.prog 133 #[.bool n, .nilIface] w fun e w' => e = .returned (.bool n) ∧ w' = w := by
  go_enter Tryz.func133, Tryz.ntmps133
  go_wp2_with fail
  go_ret
  exact ⟨rfl, rfl⟩
set_option maxRecDepth 100000 in
theorem mustB_err (n : Bool) (z : Int) (w : World) : Calls Tryz.prog 133 #[.bool n, .iface 58 (.int .i64 z)] w fun e w' => e = .panicked (panE z) ∧ w' = w := by
  go_enter Tryz.func133, Tryz.ntmps133
  go_wp2_with fail
  exact ⟨rfl, rfl, rfl⟩
end Go.Proofs.YtloeaihbnnnncaaGreatDoor.desks

/- The desk's deferred closure. No condition. -/
set_option linter.unusedSimpArgs false
set_option linter.unusedVariables false
namespace Go.Proofs.YtloeaihbnnnncaaGreatDoor.desks
open Go.RowKit Go.Proofs.YtloeaihbnnnncaaGreatDoor.lib Go.Proofs.YtloeaihbnnnncaaGreatDoor.keep Go.Proofs.YtloeaihbnnnncaaGreatDoor.errs Go.Proofs.YtloeaihbnnnncaaGreatDoor.names Go.Proofs.YtloeaihbnnnncaaGreatDoor.descs Go.Proofs.YtloeaihbnnnncaaGreatDoor.ins Go.Proofs.YtloeaihbnnnncaaGreatDoor.nums Go.Proofs.YtloeaihbnnnncaaGreatDoor.flows Go.Proofs.YtloeaihbnnnncaaGreatDoor.txts

set_option maxRecDepth 100000 in
set_option maxHeartbeats 4000000 in
theorem catch_err (pn : Nat) (z : Int) (y : Value) (w : World) (hn : w.heap[pn]? = some (.cells #[y] 9 (0, 0))) (hy : ∃ s, y = .string s) :
    CallsD Tryz.prog 75 #[.pointer (some ⟨pn, 0, none⟩)] (.panicking (panE z)) w fun e u' w' =>
      e = .returned (.tuple #[]) ∧ u' = .panicking [{ v := .iface 58 (.int .i64 z), recovered := true }] ∧ w'.heap[pn]? = some (.cells #[.string (bs (errName z))] 9 (0, 0)) ∧ Keeps (fun q => q = pn) w w' := by
  have hta : ∀ w, (Instr.typeAssert (.iface 58 (.int .i64 z)) 20 58 true).run Tryz.prog w = .ok (.tuple #[.int .i64 z, .bool true]) w := fun w => by kernel_rfl
  refine callsD_of_wpS Tryz.func75 rfl fun c₀ cs hu => ?_
  unfold panE at hu
  obtain ⟨s, rfl⟩ := hy
  have HN := hid hn
  have HE := hid (fun u => error_any z u)
  clear hn
  apply wpS_seq
  apply wpS_region
  simp [wpOpsS, go_sem, recoverD, hu, Tryz.ntmps75, Exit.thenS]
  refine wpS_of_wp ?_
  show Code.wp _ _ _ { tmps := #[.pointer (some ⟨pn, 0, none⟩), .iface 58 (.int .i64 z), undef, undef, .iface 58 (.int .i64 z), undef, undef, undef, undef, undef, undef, undef, undef, undef, undef, undef, undef], defers := [] } w
  go_wp2_with fail
  refine (HE.out _).mono ?_
  rintro e w1 ⟨rfl, hb1⟩
  have h1 : w1.heap[pn]? = some (.cells #[.string s] 9 (0, 0)) := (hb1.block _ (Array.getElem?_eq_some_iff.1 HN.out).1).trans HN.out
  have c1 : w1.cell? ⟨pn, 0, none⟩ = some (.string s) := by rw [cell_of_row _ _ _ _ _ _ h1]; rfl
  have f1 : w1.frozen? ⟨pn, 0, none⟩ = false := frozen_of_row _ _ _ _ _ h1
  have H2 := hid (heap_set h1 0 (.string (bs (errName z))))
  have K1 : Hid (Keeps (fun q => q = pn) w (w1.setCell ⟨pn, 0, none⟩ (.string (bs (errName z))))) := hid ((Keeps.of_below hb1).trans (Keeps.set w1 pn 0 _))
  clear hb1 h1
  go_wp2
  exact ⟨rfl, _, rfl, _, by simp [results, Tryz.results75, go_sem], rfl, rfl, H2.out, K1.out⟩

set_option maxRecDepth 100000 in
theorem catch_idle (pn : Nat) (w : World) :
    CallsD Tryz.prog 75 #[.pointer (some ⟨pn, 0, none⟩)] .returning w fun e u' w' =>
      e = .returned (.tuple #[]) ∧ u' = .returning ∧ w' = w := by
  refine callsD_of_wpS Tryz.func75 rfl fun c₀ cs hu => ?_
  apply wpS_seq
  apply wpS_region
  simp [wpOpsS, go_sem, recoverD, hu, Tryz.ntmps75, Exit.thenS]
  refine wpS_of_wp ?_
  show Code.wp _ _ _ { tmps := #[.pointer (some ⟨pn, 0, none⟩), .nilIface, undef, undef, .nilIface, undef, undef, undef, undef, undef, undef, undef, undef, undef, undef, undef, undef], defers := [] } w
  go_wp2
  exact ⟨rfl, .returning, by cases c₀; cases hu; rfl, _, by simp [results, Tryz.results75, go_sem], rfl, rfl, rfl⟩
end Go.Proofs.YtloeaihbnnnncaaGreatDoor.desks

/- The desk's forms: a map of seven. No condition. -/
set_option linter.unusedSimpArgs false
set_option linter.unusedVariables false
namespace Go.Proofs.YtloeaihbnnnncaaGreatDoor.desks
open Go.RowKit Go.Proofs.YtloeaihbnnnncaaGreatDoor.lib Go.Proofs.YtloeaihbnnnncaaGreatDoor.errs Go.Proofs.YtloeaihbnnnncaaGreatDoor.names Go.Proofs.YtloeaihbnnnncaaGreatDoor.descs Go.Proofs.YtloeaihbnnnncaaGreatDoor.ins Go.Proofs.YtloeaihbnnnncaaGreatDoor.nums Go.Proofs.YtloeaihbnnnncaaGreatDoor.flows Go.Proofs.YtloeaihbnnnncaaGreatDoor.txts Go.Proofs.YtloeaihbnnnncaaGreatDoor.maps Go.Proofs.YtloeaihbnnnncaaGreatDoor.worlds

def formV (k : Int) (f : FuncId) : Value := .agg #[.int .i64 k, .func (.func f) #[] #[]]
def formsL : List (ByteArray × Value) :=
  [({ data := #[99, 108, 97, 115, 115] }, formV 3 130), ({ data := #[105, 115] }, formV 3 132), ({ data := #[106, 111, 105, 110] }, formV 3 135), ({ data := #[109, 97, 116, 104] }, formV 5 138), ({ data := #[105, 110, 115] }, formV (-2) 142), ({ data := #[102, 111, 108, 100] }, formV 1 145), ({ data := #[114, 117, 110] }, formV 2 149)]
theorem zero_form (w : World) : (zeroValue 148).run Tryz.prog w = .ok (.agg #[.int .i64 0, .nilFunc]) w := by kernel_rfl
theorem forms_set {w0 w : World} {b : Nat} {l : List (ByteArray × Value)} (h : MapIs strKey w b l) (hb0 : Below w0.heap.size w0 w) (hn : w0.heap.size ≤ b) (x : ByteArray) (v : Value) :
    ∃ w', (Instr.mapUpdate 150 (.map (some b)) (.string x) v).run Tryz.prog w = .ok () w' ∧ MapIs strKey w' b (setK l x v) ∧ Below w0.heap.size w0 w' := by
  obtain ⟨w', h1, h2, h3⟩ := run_update (P := Tryz.prog) (E := strKey) Tryz.underlying150 Tryz.underlying9 h x v
  exact ⟨w', h1, h2, hb0.trans ⟨h3.os, h3.tape, h3.output, h3.size, fun k hk => h3.block k (Nat.lt_of_lt_of_le hk hb0.size) (fun e => by have := Option.some.inj e; omega)⟩⟩
theorem forms_look {w : World} {b : Nat} (h : MapIs strKey w b formsL) (x : ByteArray) : (Instr.lookup 150 (.map (some b)) (.string x) true).run Tryz.prog w = .ok (.tuple #[(getK formsL x).getD (.agg #[.int .i64 0, .nilFunc]), .bool (getK formsL x).isSome]) w :=
  run_look_ok (P := Tryz.prog) (E := strKey) Tryz.underlying150 Tryz.underlying9 h x (zero_form w)

set_option maxRecDepth 100000 in
set_option maxHeartbeats 4000000 in
theorem forms_any (w : World) : Calls Tryz.prog 77 #[] w fun e w' => e = .returned (.map (some w.heap.size)) ∧ MapIs strKey w' w.heap.size formsL ∧ Below w.heap.size w w' := by
  have hmm := @run_makeMap Tryz.prog
  have M0 : MapIs strKey (w.alloc (.map #[] 0)) w.heap.size [] := ⟨#[], 0, heap_alloc_new _ _, rfl⟩
  have B0 : Below w.heap.size w (w.alloc (.map #[] 0)) := ext_alloc _ _
  obtain ⟨u1, r1, M1, B1⟩ := forms_set M0 B0 (Nat.le_refl _) { data := #[99, 108, 97, 115, 115] } (formV 3 130)
  obtain ⟨u2, r2, M2, B2⟩ := forms_set M1 B1 (Nat.le_refl _) { data := #[105, 115] } (formV 3 132)
  obtain ⟨u3, r3, M3, B3⟩ := forms_set M2 B2 (Nat.le_refl _) { data := #[106, 111, 105, 110] } (formV 3 135)
  obtain ⟨u4, r4, M4, B4⟩ := forms_set M3 B3 (Nat.le_refl _) { data := #[109, 97, 116, 104] } (formV 5 138)
  obtain ⟨u5, r5, M5, B5⟩ := forms_set M4 B4 (Nat.le_refl _) { data := #[105, 110, 115] } (formV (-2) 142)
  obtain ⟨u6, r6, M6, B6⟩ := forms_set M5 B5 (Nat.le_refl _) { data := #[102, 111, 108, 100] } (formV 1 145)
  obtain ⟨u7, r7, M7, B7⟩ := forms_set M6 B6 (Nat.le_refl _) { data := #[114, 117, 110] } (formV 2 149)
  have HM : Hid (MapIs strKey u7 w.heap.size formsL) := hid M7
  have HB := hid B7
  unfold formV at r1 r2 r3 r4 r5 r6 r7
  clear M0 M1 M2 M3 M4 M5 M6 M7 B0 B1 B2 B3 B4 B5 B6 B7
  go_enter Tryz.func77, Tryz.ntmps77
  go_wp2_with fail
  go_ret
  exact ⟨rfl, HM.out, HB.out⟩
end Go.Proofs.YtloeaihbnnnncaaGreatDoor.desks

/- A region that draws its order and holds a call that writes or panics: as XOne; what a panic leaves (QP) must not look at what the region's operations leave. -/
namespace Go.Proofs.YtloeaihbnnnncaaGreatDoor.grow

section
variable {P : Program} {ops : Array Oper} {md : Region.Mode} {QP : List PanicEntry → Act → World → Prop}

def growUponP (P : Program) (S : Value → World → Prop) (T : List PanicEntry → World → Prop) : Result Next → Prop
  | .ok (.value u) w' => S u w'
  | .ok .skip w' => S undef w'
  | .ok (.enter f args) w' => Calls P f args w' (fun e w'' => (∃ u, e = .returned u ∧ S u w'') ∨ ∃ ch, e = .panicked ch ∧ T ch w'')
  | _ => False
def vOp (P : Program) (ops : Array Oper) (QP : List PanicEntry → Act → World → Prop) (i : Nat) (K : Act → World → Prop) (a : Act) (w : World) : Prop :=
  match ops[i]? with
  | none => K a w
  | some o => (Region.wanted o (yielded ops a.tmps) = true ∧ growUponP P (fun u w' => K (a.put o.dst u) w') (fun ch w' => QP ch a w') ((execOp a.eval o).run P w)) ∨ (Region.wanted o (yielded ops a.tmps) = false ∧ K (a.put o.dst undef) w)
/-- Whatever order is picked from here on. -/
def wpAnyV (P : Program) (md : Region.Mode) (ops : Array Oper) (QP : List PanicEntry → Act → World → Prop) (Q : Act → World → Prop) : Nat → Array Bool → Act → World → Prop
  | 0, listed, a, w => Region.ready md ops listed = [] ∧ Q a w
  | fuel + 1, listed, a, w => (Region.ready md ops listed = [] → Q a w) ∧ ∀ i ∈ Region.ready md ops listed, vOp P ops QP i (wpAnyV P md ops QP Q fuel (listed.setIfInBounds i true)) a w
theorem growUponP_mono {S S' : Value → World → Prop} {T T' : List PanicEntry → World → Prop} {r : Result Next} (h : ∀ u w, S u w → S' u w) (h' : ∀ c w, T c w → T' c w) (hh : growUponP P S T r) : growUponP P S' T' r := by
  cases r with
  | ok n w' =>
    cases n <;> simp only [growUponP] at hh ⊢
    case value u => exact h _ _ hh
    case skip => exact h _ _ hh
    case enter f args => exact hh.mono fun e w'' hx => hx.imp (fun ⟨u, he, hS⟩ => ⟨u, he, h _ _ hS⟩) (fun ⟨c, he, hT⟩ => ⟨c, he, h' _ _ hT⟩)
  | halt x w' => simp only [growUponP] at hh
theorem upon_of_growP {o : Oper} {a : Act} {K : Act → World → Prop} {Q : Exit → Act → World → Prop} {S : Value → World → Prop} {T : List PanicEntry → World → Prop} {r : Result Next} (h : growUponP P S T r) (hK : ∀ u w', S u w' → K (a.put o.dst u) w') (hT : ∀ c w', T c w' → Q (.panic c) a w') : o.upon P a K Q r := by
  cases r with
  | ok n w' =>
    cases n <;> simp only [growUponP] at h <;> simp only [Oper.upon]
    case value u => exact hK _ _ h
    case skip => exact hK _ _ h
    case enter f args =>
      refine h.mono fun e w'' hx => ?_
      rcases hx with ⟨u, he, hS⟩ | ⟨c, he, hS⟩
      · subst he; exact hK _ _ hS
      · subst he; exact hT _ _ hS
  | halt x w' => simp only [growUponP] at h
theorem wpAny_of_V {Q' : Exit → Act → World → Prop} {Q : Act → World → Prop} (hQ : ∀ a w, Q a w → Q' .normal a w) (hQP : ∀ c a w, QP c a w → Q' (.panic c) a w) : ∀ (fuel : Nat) (listed : Array Bool) (a : Act) (w : World), wpAnyV P md ops QP Q fuel listed a w → wpAny P md ops Q' fuel listed a w
  | 0, _, _, _, h => ⟨h.1, hQ _ _ h.2⟩
  | fuel + 1, listed, a, w, h => ⟨fun h0 => hQ _ _ (h.1 h0), fun i hi => by
      have h2 := h.2 i hi
      unfold vOp at h2
      unfold wpOp
      split
      · rename_i ho; simp only [ho] at h2; exact wpAny_of_V hQ hQP fuel _ _ _ h2
      · rename_i o ho
        simp only [ho] at h2
        rcases h2 with ⟨hw, h2⟩ | ⟨hw, h2⟩
        · rw [if_pos hw]; exact .inl (upon_of_growP h2 (fun u w' h3 => wpAny_of_V hQ hQP fuel _ _ _ h3) fun c w' h3 => hQP _ _ _ h3)
        · rw [hw]; exact wpAny_of_V hQ hQP fuel _ _ _ h2⟩
/-- what a panic leaves does not look at what the operations leave -/
def Blind (ops : Array Oper) (QP : List PanicEntry → Act → World → Prop) : Prop := ∀ (i : Nat) (o : Oper) (c : List PanicEntry) (a : Act) (v : Value) (w : World), ops[i]? = some o → QP c (a.put o.dst v) w → QP c a w
theorem vOp_put {i j : Nat} {oi oj : Oper} {v : Value} (hB : Blind ops QP) (hi : ops[i]? = some oi) (hj : ops[j]? = some oj) (hap : oi.apart ops oj = true) (hsj : ∀ cs b, oj.op ≠ .select cs b) {K : Act → World → Prop} {a : Act} {w : World}
    (h : vOp P ops QP j K (a.put oi.dst v) w) : vOp P ops QP j (fun a' w' => K (a'.put oi.dst v) w') a w := by
  obtain ⟨q1, q2, q3⟩ := Oper.apart_spec hap
  unfold vOp at *
  simp only [hj] at h ⊢
  rw [execOp_put oj hsj a oi.dst v q1, wanted_put oj a oi.dst v q1] at h
  rcases h with ⟨hw, h⟩ | ⟨hw, h⟩
  · exact .inl ⟨hw, growUponP_mono (fun u w' h3 => by rw [← Act.put_comm a v u q2]; exact h3) (fun c w' h3 => hB i oi c a v w' hi h3) h⟩
  · exact .inr ⟨hw, by rw [← Act.put_comm a v undef q2]; exact h⟩
/-- the operation gives this value in every world -/
def CalcV (P : Program) (ops : Array Oper) (o : Oper) (a : Act) (v : Value) : Prop := Region.wanted o (yielded ops a.tmps) = true ∧ ∀ w, (execOp a.eval o).run P w = .ok (.value v) w

theorem calcV_put {oi oj : Oper} {a : Act} {v u : Value} (hap : ∀ d, oj.dst = some d → d ∉ oi.looksAt ops) (hsi : ∀ cs b, oi.op ≠ .select cs b) (h : CalcV P ops oi a v) : CalcV P ops oi (a.put oj.dst u) v := by
  unfold CalcV at *
  rw [execOp_put oi hsi a oj.dst u hap, wanted_put oi a oj.dst u hap]
  exact h
theorem calcV_run {i : Nat} {oi : Oper} {v : Value} {a : Act} {w : World} (hi : ops[i]? = some oi) (h : CalcV P ops oi a v) {K : Act → World → Prop} (hK : K (a.put oi.dst v) w) : vOp P ops QP i K a w := by
  unfold vOp
  simp only [hi]
  exact .inl ⟨h.1, by rw [h.2 w]; exact hK⟩

/-- AN OPERATION THAT ONLY COMPUTES AND MAY COME UP MAY BE TAKEN FIRST. -/
theorem wpAnyV_first {Q : Act → World → Prop} (hB : Blind ops QP) {i : Nat} {oi : Oper} {v : Value} (hi : ops[i]? = some oi) (hsel : ∀ (j : Nat) (o : Oper) cs b, ops[j]? = some o → o.op ≠ .select cs b) :
    ∀ (fuel : Nat) (listed : Array Bool) (a : Act) (w : World),
      (∀ j oj, ops[j]? = some oj → j ≠ i → listed.getD j true = false → (∀ e ∈ oj.after, Region.binds md e = true → e.on ≠ i) → oi.apart ops oj = true) →
      i ∈ Region.ready md ops listed → CalcV P ops oi a v → wpAnyV P md ops QP Q fuel (listed.setIfInBounds i true) (a.put oi.dst v) w → wpAnyV P md ops QP Q (fuel + 1) listed a w := by
  intro fuel
  induction fuel with
  | zero =>
    intro listed a w _ hr hy H
    refine ⟨fun h => (by rw [h] at hr; cases hr), fun j hj => ?_⟩
    by_cases hji : j = i
    · subst hji; exact calcV_run hi hy H
    · have := ready_mono hj hji
      rw [H.1] at this
      cases this
  | succ fuel ih =>
    intro listed a w hfree hr hy H
    refine ⟨fun h => (by rw [h] at hr; cases hr), fun j hj => ?_⟩
    by_cases hji : j = i
    · subst hji; exact calcV_run hi hy H
    · have h1 := H.2 j (ready_mono hj hji)
      obtain ⟨hjun, oj, hoj, hall⟩ := mem_ready.1 hj
      have hnot : ∀ e ∈ oj.after, Region.binds md e = true → e.on ≠ i := fun e he hb heq => by
        have h1 := hall e he hb
        have h0 := (mem_ready.1 hr).1
        rw [heq] at h1
        rcases Nat.lt_or_ge i listed.size with h' | h'
        · simp [h'] at h0 h1; rw [h0] at h1; cases h1
        · simp [Array.getElem?_eq_none h'] at h1
      have hap := hfree j oj hoj hji hjun hnot
      have h2 := vOp_put hB hi hoj hap (fun cs b => hsel j oj cs b hoj) h1
      have hfree' : ∀ k ok, ops[k]? = some ok → k ≠ i → (listed.setIfInBounds j true).getD k true = false →
          (∀ e ∈ ok.after, Region.binds md e = true → e.on ≠ i) → oi.apart ops ok = true := fun k ok hk hki hun hno => by
        refine hfree k ok hk hki ?_ hno
        by_cases hjk : j = k
        · subst hjk; exact hjun
        · rw [getD_set_ne true hjk] at hun; exact hun
      unfold vOp at h2 ⊢
      simp only [hoj] at h2 ⊢
      have key : ∀ u w', wpAnyV P md ops QP Q fuel ((listed.setIfInBounds i true).setIfInBounds j true) ((a.put oj.dst u).put oi.dst v) w' → wpAnyV P md ops QP Q (fuel + 1) (listed.setIfInBounds j true) (a.put oj.dst u) w' := fun u w' h3 => by
        refine ih _ _ _ hfree' (ready_mono hr (Ne.symm hji)) (calcV_put (Oper.apart_spec hap).2.2 (fun cs b => hsel i oi cs b hi) hy) ?_
        rw [Array.setIfInBounds_comm _ _ hji]
        exact h3
      rcases h2 with ⟨hw, h2⟩ | ⟨hw, h2⟩
      · exact .inl ⟨hw, growUponP_mono (fun u w' h3 => key u w' h3) (fun c w' h3 => h3) h2⟩
      · exact .inr ⟨hw, key _ _ h2⟩

/-! The steps -/
theorem wp_region_onep {id : Nat} {Q : Exit → Act → World → Prop} {a : Act} {w : World} {l : List Oper} (QP : List PanicEntry → Act → World → Prop) (hQP : ∀ c a w, QP c a w → Q (.panic c) a w) (hm : P.follows .mixedOrders = true)
    (h : wpAnyV P .any l.toArray QP (fun a w => Q .normal a w) l.length (Array.replicate l.length false) a { w with drawn := w.drawn + 1 }) : (Code.region id l.toArray true).wp P Q a w :=
  wp_region_any hm (wpAny_of_V (fun _ _ h => h) hQP _ _ _ _ (by simpa using h))

/-- number i only computes: it is taken first -/
theorem v_calc {Q : Act → World → Prop} (hB : Blind ops QP) {n : Nat} {listed : Array Bool} {a : Act} {w : World} (i : Nat) (o : Oper) (v : Value) (hi : ops[i]? = some o) (hs : Region.noSelect ops = true) (hf : Region.free .any ops listed i = true) (hr : (Region.ready .any ops listed).contains i = true)
    (hw : Region.wanted o (yielded ops a.tmps) = true) (h : ∀ w, (execOp a.eval o).run P w = .ok (.value v) w) (hn : wpAnyV P .any ops QP Q n (listed.setIfInBounds i true) (a.put o.dst v) w) : wpAnyV P .any ops QP Q (n + 1) listed a w :=
  wpAnyV_first hB hi (Region.noSelect_spec hs) n listed a w (Region.free_spec hi hf) (by simpa using hr) ⟨hw, h⟩ hn
/-- number i alone may come up -/
theorem v_only {Q : Act → World → Prop} {n : Nat} {listed : Array Bool} {a : Act} {w : World} (i : Nat) (o : Oper) (hi : ops[i]? = some o) (hr : Region.ready .any ops listed = [i])
    (hw : Region.wanted o (yielded ops a.tmps) = true) (h : growUponP P (fun u w' => wpAnyV P .any ops QP Q n (listed.setIfInBounds i true) (a.put o.dst u) w') (fun c w' => QP c a w') ((execOp a.eval o).run P w)) : wpAnyV P .any ops QP Q (n + 1) listed a w := by
  refine ⟨fun h0 => (by rw [hr] at h0; cases h0), fun j hj => ?_⟩
  rw [hr] at hj
  obtain rfl := List.mem_singleton.1 hj
  unfold vOp
  simp only [hi]
  exact .inl ⟨hw, h⟩
/-- numbers i and j may come up, and both read -/
theorem v_two {Q : Act → World → Prop} {n : Nat} {listed : Array Bool} {a : Act} {w : World} (i j : Nat) (oi oj : Oper) (vi vj : Value) (hi : ops[i]? = some oi) (hj : ops[j]? = some oj) (hij : i ≠ j) (hs : Region.noSelect ops = true)
    (hr : Region.ready .any ops listed = [i, j]) (hri : Region.ready .any ops (listed.setIfInBounds i true) = [j]) (hrj : Region.ready .any ops (listed.setIfInBounds j true) = [i]) (hap : oi.apart ops oj = true)
    (hwi : Region.wanted oi (yielded ops a.tmps) = true) (hwj : Region.wanted oj (yielded ops a.tmps) = true)
    (h1 : (execOp a.eval oi).run P w = .ok (.value vi) w) (h2 : (execOp a.eval oj).run P w = .ok (.value vj) w)
    (hn : wpAnyV P .any ops QP Q n ((listed.setIfInBounds i true).setIfInBounds j true) ((a.put oi.dst vi).put oj.dst vj) w) : wpAnyV P .any ops QP Q (n + 2) listed a w := by
  obtain ⟨q1, q2, q3⟩ := Oper.apart_spec hap
  have hsi := fun cs b => Region.noSelect_spec hs i oi cs b hi
  have hsj := fun cs b => Region.noSelect_spec hs j oj cs b hj
  refine ⟨fun h0 => (by rw [hr] at h0; cases h0), fun k hk => ?_⟩
  rw [hr] at hk
  simp only [List.mem_cons, List.not_mem_nil, or_false] at hk
  rcases hk with rfl | rfl
  · unfold vOp
    simp only [hi]
    refine .inl ⟨hwi, ?_⟩
    rw [h1]
    refine v_only j oj hj hri (by rw [wanted_put oj a oi.dst vi q1]; exact hwj) ?_
    rw [execOp_put oj hsj a oi.dst vi q1, h2]
    exact hn
  · unfold vOp
    simp only [hj]
    refine .inl ⟨hwj, ?_⟩
    rw [h2]
    refine v_only i oi hi hrj (by rw [wanted_put oi a oj.dst vj q3]; exact hwi) ?_
    rw [execOp_put oi hsi a oj.dst vj q3, h1]
    show wpAnyV P .any ops QP Q n ((listed.setIfInBounds k true).setIfInBounds i true) ((a.put oj.dst vj).put oi.dst vi) w
    rw [Array.setIfInBounds_comm _ _ (Ne.symm hij), ← Act.put_comm a vi vj q2]
    exact hn
theorem v_end {Q : Act → World → Prop} {n : Nat} {listed : Array Bool} {a : Act} {w : World} (hr : Region.ready .any ops listed = []) (h : Q a w) : wpAnyV P .any ops QP Q n listed a w := by
  cases n with
  | zero => exact ⟨hr, h⟩
  | succ n => exact ⟨fun _ => h, fun i hi => by rw [hr] at hi; cases hi⟩
end
end Go.Proofs.YtloeaihbnnnncaaGreatDoor.grow

/- One line of the desk, told by its form. Conditions: the variables that the library reads hold what they hold at the start; the line is not long. -/
set_option linter.unusedSimpArgs false
set_option linter.unusedVariables false
namespace Go.Proofs.YtloeaihbnnnncaaGreatDoor.desks
open Go.RowKit Go.Proofs.YtloeaihbnnnncaaGreatDoor.lib Go.Proofs.YtloeaihbnnnncaaGreatDoor.keep Go.Proofs.YtloeaihbnnnncaaGreatDoor.errs Go.Proofs.YtloeaihbnnnncaaGreatDoor.names Go.Proofs.YtloeaihbnnnncaaGreatDoor.descs Go.Proofs.YtloeaihbnnnncaaGreatDoor.ins Go.Proofs.YtloeaihbnnnncaaGreatDoor.nums Go.Proofs.YtloeaihbnnnncaaGreatDoor.flows Go.Proofs.YtloeaihbnnnncaaGreatDoor.txts Go.Proofs.YtloeaihbnnnncaaGreatDoor.maps Go.Proofs.YtloeaihbnnnncaaGreatDoor.worlds Go.Proofs.YtloeaihbnnnncaaGreatDoor.grow

/-- what a form's function does: it tells a text, or panics with an error whose name is told; block A stays -/
def TellBy (A : Nat) (R : List UInt8 → World → Prop) (u : World) (e : Ending) (w' : World) : Prop :=
  w'.heap[A]? = u.heap[A]? ∧ ((∃ t, e = .returned (.string (bs t)) ∧ R t w') ∨ ∃ z, e = .panicked (panE z) ∧ R (errName z) w')
def Stab (A : Nat) (R : List UInt8 → World → Prop) : Prop := ∀ t u v, R t u → Keeps (fun q => q = A) u v → R t v
theorem words_sl {w : World} {ws : List (List UInt8)} (hne : 1 ≤ ws.length) : Sl (w.alloc (.cells (ws.map sv).toArray 9)) (.slice (if ws.length = 1 then some ⟨w.heap.size, 0, none⟩ else some ⟨w.heap.size, 1, none⟩) (ws.length - 1) (ws.length - 1)) (ws.length - 1) 1 (ws.tail.map sv) := by
  by_cases h1 : ws.length = 1
  · rw [if_pos h1]
    refine ⟨by simp, _, _, rfl, Nat.le_refl _, .inr ⟨_, _, rfl, fun j x hj => ?_⟩⟩
    have : ws.tail = [] := List.eq_nil_of_length_eq_zero (by simp [h1])
    rw [this] at hj
    simp at hj
  · rw [if_neg h1]
    refine ⟨by simp, _, _, rfl, Nat.le_refl _, .inr ⟨_, _, rfl, fun j x hj => ?_⟩⟩
    rw [cell_of_row _ _ _ _ _ _ (heap_alloc_new _ _)]
    cases ws with
    | nil => simp at hne
    | cons y r => simpa [Nat.add_comm] using hj
/-- how the line ends: told, or caught -/
theorem line_told {A : Nat} {R : List UInt8 → World → Prop} {tmps : Array Value} {w : World} {t : List UInt8} (h4 : tmps.getD 4 undef = .pointer (some ⟨A, 0, none⟩)) (hA : w.heap[A]? = some (.cells #[.string (bs t)] 9 (0, 0))) (hR : R t w) :
    Leaves Tryz.prog Tryz.f40 tmps (fun e w' => ∃ t, e = .returned (.string (bs t)) ∧ R t w') [{ target := .fn (.func 75) #[.pointer (some ⟨A, 0, none⟩)], args := #[] }] .returning w := by
  refine leaves_cons (f := 75) (args := #[.pointer (some ⟨A, 0, none⟩)]) (by simp) (by simp [go_sem]) ?_
  refine (catch_idle _ _).mono ?_
  rintro e u' w9 ⟨rfl, rfl, rfl⟩
  have h4' : tmps[4]?.getD undef = .pointer (some ⟨A, 0, none⟩) := by simpa using h4
  have hc : w9.cell? ⟨A, 0, none⟩ = some (.string (bs t)) := by rw [cell_of_row _ _ _ _ _ _ hA]; rfl
  refine ⟨.string (bs t), ?_, t, rfl, hR⟩
  simp [results, Tryz.results40, h4', go_sem, hc]
theorem line_caught {A : Nat} {R : List UInt8 → World → Prop} {tmps : Array Value} {w : World} {z : Int} {x : ByteArray} (hst : Stab A R) (h4 : tmps.getD 4 undef = .pointer (some ⟨A, 0, none⟩)) (hA : w.heap[A]? = some (.cells #[.string x] 9 (0, 0))) (hR : R (errName z) w) :
    Leaves Tryz.prog Tryz.f40 tmps (fun e w' => ∃ t, e = .returned (.string (bs t)) ∧ R t w') [{ target := .fn (.func 75) #[.pointer (some ⟨A, 0, none⟩)], args := #[] }] (.panicking (panE z)) w := by
  refine leaves_cons (f := 75) (args := #[.pointer (some ⟨A, 0, none⟩)]) (by simp) (by simp [go_sem]) ?_
  refine (catch_err A z _ w hA ⟨_, rfl⟩).mono ?_
  rintro e u' w9 ⟨rfl, rfl, h9, k9⟩
  have h4' : tmps[4]?.getD undef = .pointer (some ⟨A, 0, none⟩) := by simpa using h4
  have hc : w9.cell? ⟨A, 0, none⟩ = some (.string (bs (errName z))) := by rw [cell_of_row _ _ _ _ _ _ h9]; rfl
  refine ⟨.string (bs (errName z)), ?_, _, rfl, hst _ _ _ hR k9⟩
  simp [results, Tryz.results40, h4', go_sem, hc]
/-- what the line looks at when it is left by a panic -/
def lineQ (A : Nat) (R : List UInt8 → World → Prop) : List PanicEntry → Act → World → Prop := fun c a w' =>
  a.defers = [{ target := .fn (.func 75) #[.pointer (some ⟨A, 0, none⟩)], args := #[] }] ∧ a.tmps.getD 4 undef = .pointer (some ⟨A, 0, none⟩) ∧ ∃ z, c = panE z ∧ R (errName z) w' ∧ ∃ x, w'.heap[A]? = some (.cells #[.string x] 9 (0, 0))
theorem lineQ_blind {A : Nat} {R : List UInt8 → World → Prop} {ops : Array Oper} (h : (List.range ops.size).all (fun i => match ops[i]? with | some o => o.dst != some 4 | none => true) = true) : Blind ops (lineQ A R) := by
  intro i o c a v w hi hq
  have hlt := (Array.getElem?_eq_some_iff.1 hi).1
  have ho : o.dst ≠ some 4 := by
    have := List.all_eq_true.1 h i (List.mem_range.2 hlt)
    rw [hi] at this
    simpa using this
  obtain ⟨h1, h2, h3⟩ := hq
  refine ⟨?_, ?_, h3⟩
  · rw [← h1]; unfold Act.put; cases o.dst <;> rfl
  · rw [← h2]
    unfold Act.put
    cases hd : o.dst with
    | none => rfl
    | some t =>
      have : t ≠ 4 := fun e => ho (by rw [hd, e])
      simp [Array.getD_eq_getD_getElem?, Array.getElem?_setIfInBounds_ne this]
set_option maxRecDepth 100000 in
set_option maxHeartbeats 4000000 in
theorem line_tells (vd : Value) (s : ByteArray) (w : World) (hv : Vars w) (hs : s.size ≤ 10000000) (k : Int) (f : FuncId) (hk : k = 1 ∨ k = 2 ∨ k = 3 ∨ k = 5) (hget : getK formsL (bs (headW s.data.toList)) = some (formV k f)) (hn : ((cutsOf 32 s.data.toList).length : Int) = k) (hcf : ∀ (args : Array Value) (w : World), (callFunc f args).run Tryz.prog w = .ok (.enter f args) w)
    (R : List UInt8 → World → Prop) (hst : Stab w.heap.size R)
    (ht : ∀ u vs, Below w.heap.size w u → w.heap.size < u.heap.size → Sl u vs ((cutsOf 32 s.data.toList).length - 1) 1 ((cutsOf 32 s.data.toList).tail.map sv) → Calls Tryz.prog f #[vd, vs] u (TellBy w.heap.size R u)) :
    Calls Tryz.prog 40 #[vd, .string s] w fun e w' => ∃ t, e = .returned (.string (bs t)) ∧ R t w' := by
  obtain ⟨X1, hX1⟩ : ∃ X1, w.alloc (.cells #[.string { data := #[] }] 9) = X1 := ⟨_, rfl⟩
  have HB1 : Hid (Below w.heap.size w X1) := hid (hX1 ▸ ext_alloc _ _)
  have HA1 : Hid (X1.heap[w.heap.size]? = some (.cells #[.string { data := #[] }] 9 (0, 0))) := hid (hX1 ▸ heap_alloc_new _ _)
  have HCUT := hid (fun u (hu : Below w.heap.size w u) => cut_any s u (hv.below hu) hs)
  have HSPL := hid (fun u (hu : Below w.heap.size w u) => splitn_any s u (hv.below hu) hs)
  have HFO := hid forms_any
  have HT := hid ht
  have HST := hid hst
  obtain ⟨W, hW⟩ : ∃ W, cutsOf 32 s.data.toList = W := ⟨_, rfl⟩
  obtain ⟨h, hh⟩ : ∃ h, bs (headW s.data.toList) = h := ⟨_, rfl⟩
  rw [hW] at HSPL HT hn
  rw [hh] at HCUT hget
  have hne : 1 ≤ W.length := by omega
  have HSL := hid (fun u : World => words_sl (w := u) hne)
  have HG := hid hget
  clear hv hs ht hst hW hh hget
  have hmf : ∀ (fn : Fn) (first cap : Array Value) (w : World), (Instr.makeFunc fn first cap).run Tryz.prog w = .ok (.func fn first cap) w := fun _ _ _ _ => rfl
  go_enter_defers Tryz.func40, Tryz.ntmps40
  go_wp2_with fail
  refine (HCUT.out _ HB1.out).mono ?_
  rintro e w2 ⟨⟨xx, yy, rfl⟩, hb2⟩
  have HB2 := hid (HB1.out.trans (hb2.mono HB1.out.size))
  have HA2 := hid ((hb2.block _ (Array.getElem?_eq_some_iff.1 HA1.out).1).trans HA1.out)
  clear hb2
  go_wp2_with fail
  refine (HFO.out _).mono ?_
  rintro e w3 ⟨rfl, hm3, hb3⟩
  have HB3 := hid (HB2.out.trans (hb3.mono HB2.out.size))
  have HA3 := hid ((hb3.block _ (Array.getElem?_eq_some_iff.1 HA2.out).1).trans HA2.out)
  have hlk := forms_look hm3 h
  rw [HG.out] at hlk
  simp only [Option.getD_some, Option.isSome_some, formV] at hlk
  clear hb3 hm3
  obtain ⟨X4, hX4⟩ : ∃ X4, w3.alloc (.cells #[.int .i64 k, .func (.func f) #[] #[]] 148) = X4 := ⟨_, rfl⟩
  have HB4 : Hid (Below w.heap.size w X4) := hid (hX4 ▸ HB3.out.alloc HB3.out.size _)
  have HA4 : Hid (X4.heap[w.heap.size]? = some (.cells #[.string { data := #[] }] 9 (0, 0))) := hid (hX4 ▸ ((ext_alloc w3 _).block _ (Array.getElem?_eq_some_iff.1 HA3.out).1).trans HA3.out)
  have HF4 : Hid (X4.heap[w3.heap.size]? = some (.cells #[.int .i64 k, .func (.func f) #[] #[]] 148 (0, 0))) := hid (hX4 ▸ heap_alloc_new _ _)
  have cf0 : X4.cell? ⟨w3.heap.size, 0, none⟩ = some (.int .i64 k) := by rw [cell_of_row _ _ _ _ _ _ HF4.out]; rfl
  go_wp2_with fail
  rw [show -min k 1 = -1 by omega]
  refine (HSPL.out _ HB4.out).mono ?_
  rintro e w5 ⟨rfl, h5⟩
  have HS5 : Hid (Sl w5 (.slice (if W.length = 1 then some ⟨X4.heap.size, 0, none⟩ else some ⟨X4.heap.size, 1, none⟩) (W.length - 1) (W.length - 1)) (W.length - 1) 1 (W.tail.map sv)) := hid (h5 ▸ HSL.out X4)
  have HB5 : Hid (Below w.heap.size w w5) := hid (h5 ▸ HB4.out.alloc HB4.out.size _)
  have HA5 : Hid (w5.heap[w.heap.size]? = some (.cells #[.string { data := #[] }] 9 (0, 0))) := hid (h5 ▸ ((ext_alloc X4 _).block _ (Array.getElem?_eq_some_iff.1 HA4.out).1).trans HA4.out)
  have HF5 : Hid (w5.heap[w3.heap.size]? = some (.cells #[.int .i64 k, .func (.func f) #[] #[]] 148 (0, 0))) := hid (h5 ▸ ((ext_alloc X4 _).block _ (Array.getElem?_eq_some_iff.1 HF4.out).1).trans HF4.out)
  clear h5 cf0
  have cf0 : w5.cell? ⟨w3.heap.size, 0, none⟩ = some (.int .i64 k) := by rw [cell_of_row _ _ _ _ _ _ HF5.out]; rfl
  have cf1 : w5.cell? ⟨w3.heap.size, 1, none⟩ = some (.func (.func f) #[] #[]) := by rw [cell_of_row _ _ _ _ _ _ HF5.out]; rfl
  have hmx : max k (-k) = k := by omega
  have hbn : ((W.length : Int) != k) = false := by rw [hn]; simp
  go_wp2_with fail
  have h1l : (1 : Int) ≤ k := by omega
  obtain ⟨AD, hAD⟩ : ∃ AD, (if W.length = 1 then some (⟨X4.heap.size, 0, none⟩ : Addr) else some ⟨X4.heap.size, 1, none⟩) = AD := ⟨_, rfl⟩
  rw [hAD] at HS5
  refine wp_region_onep (lineQ w.heap.size R) ?_ rfl ?_
  · rintro c a w' ⟨hd, h4, z, rfl, hR, x, hx⟩
    show Leaves _ _ a.tmps _ a.defers _ _
    rw [hd]
    exact line_caught HST.out h4 hx hR
  · change wpAnyV _ .any _ _ _ 7 (Array.replicate 7 false) _ (World.drew _)
    refine v_calc (lineQ_blind (by kernel_rfl)) 0 _ _ rfl (by kernel_rfl) (by kernel_rfl) (by kernel_rfl) (by rfl) (fun u => by go_simp; rfl) ?_
    simp only [List.getElem_toArray, List.getElem_cons_zero, List.getElem_cons_succ, Act.put, List.setIfInBounds_toArray, List.set_cons_zero, List.set_cons_succ]
    refine v_calc (lineQ_blind (by kernel_rfl)) 2 _ _ rfl (by kernel_rfl) (by kernel_rfl) (by kernel_rfl) (by rfl) (fun u => by go_simp; rfl) ?_
    simp only [List.getElem_toArray, List.getElem_cons_zero, List.getElem_cons_succ, Act.put, List.setIfInBounds_toArray, List.set_cons_zero, List.set_cons_succ]
    refine v_calc (lineQ_blind (by kernel_rfl)) 3 _ _ rfl (by kernel_rfl) (by kernel_rfl) (by kernel_rfl) (by rfl) (fun u => by go_simp; rfl) ?_
    simp only [List.getElem_toArray, List.getElem_cons_zero, List.getElem_cons_succ, Act.put, List.setIfInBounds_toArray, List.set_cons_zero, List.set_cons_succ]
    refine v_calc (lineQ_blind (by kernel_rfl)) 4 _ _ rfl (by kernel_rfl) (by kernel_rfl) (by kernel_rfl) (by rfl) (fun u => by go_simp; rfl) ?_
    simp only [List.getElem_toArray, List.getElem_cons_zero, List.getElem_cons_succ, Act.put, List.setIfInBounds_toArray, List.set_cons_zero, List.set_cons_succ]
    have cf1' : (World.drew w5).cell? ⟨w3.heap.size, 1, none⟩ = some (.func (.func f) #[] #[]) := cf1
    refine v_only 1 _ rfl (by kernel_rfl) (by rfl) ?_
    go_simp
    try simp only [List.getElem_toArray, List.getElem_cons_zero, List.getElem_cons_succ, Act.put, List.setIfInBounds_toArray, List.set_cons_zero, List.set_cons_succ]
    refine v_only 5 _ rfl (by kernel_rfl) (by rfl) ?_
    go_simp
    show Calls _ _ _ _ _
    refine (HT.out _ _ HB5.out.drew (by have := (Array.getElem?_eq_some_iff.1 HA5.out).1; exact this) HS5.out).mono ?_
    rintro e w6 ⟨hA6, hcase⟩
    have HA6 := hid (hA6.trans HA5.out)
    rcases hcase with ⟨t, rfl, hR⟩ | ⟨z, rfl, hR⟩
    · refine .inl ⟨_, rfl, ?_⟩
      have c6 : w6.cell? ⟨w.heap.size, 0, none⟩ = some (.string { data := #[] }) := by rw [cell_of_row _ _ _ _ _ _ HA6.out]; rfl
      have f6 : w6.frozen? ⟨w.heap.size, 0, none⟩ = false := frozen_of_row _ _ _ _ _ HA6.out
      have HA7 := hid (heap_set HA6.out 0 (.string (bs t)))
      have HR7 := hid (HST.out _ _ _ hR (Keeps.set w6 w.heap.size 0 (.string (bs t))))
      refine v_only 6 _ rfl (by kernel_rfl) (by rfl) ?_
      go_simp
      refine v_end (by kernel_rfl) ?_
      go_wp2_with fail
      exact line_told rfl HA7.out HR7.out
    · exact .inr ⟨_, rfl, rfl, rfl, z, rfl, hR, _, HA6.out⟩
end Go.Proofs.YtloeaihbnnnncaaGreatDoor.desks

/- num.Math. No condition. -/
set_option linter.unusedSimpArgs false
set_option linter.unusedVariables false
namespace Go.Proofs.YtloeaihbnnnncaaGreatDoor.desks
open Go.RowKit Go.Proofs.YtloeaihbnnnncaaGreatDoor.lib Go.Proofs.YtloeaihbnnnncaaGreatDoor.errs Go.Proofs.YtloeaihbnnnncaaGreatDoor.names Go.Proofs.YtloeaihbnnnncaaGreatDoor.descs Go.Proofs.YtloeaihbnnnncaaGreatDoor.ins Go.Proofs.YtloeaihbnnnncaaGreatDoor.nums Go.Proofs.YtloeaihbnnnncaaGreatDoor.flows Go.Proofs.YtloeaihbnnnncaaGreatDoor.txts

theorem isWd_bs {t : List UInt8} : isWd (bs t).data.toList = isWd t := rfl

set_option maxRecDepth 100000 in
set_option maxHeartbeats 8000000 in
theorem math_any (t : List UInt8) (k a b : Int) (w : World) : Calls Tryz.prog 17 #[.string (bs t), .int .i64 k, .int .i64 a, .int .i64 b] w fun e w' => e = .returned (.tuple #[.int .i64 (mathF t k a b).2, errVal (mathF t k a b).1]) ∧ Below w.heap.size w w' := by
  have HO := hid (fun u => of_any (bs t) k a b u)
  have HNU := hid (fun u => Go.Proofs.YtloeaihbnnnncaaGreatDoor.descs.number_any (bs t) u)
  rw [isWd_bs] at HNU
  rw [show (bs t).data.toList = t from rfl] at HO
  obtain ⟨B, hB⟩ : ∃ B, isWd t = B := ⟨_, rfl⟩
  obtain ⟨q, hq⟩ : ∃ q, ofOf t k a b = q := ⟨_, rfl⟩
  obtain ⟨n, c⟩ := q
  obtain ⟨M, hM⟩ : ∃ M, mathF t k a b = M := ⟨_, rfl⟩
  have HM := hid hM
  rw [hM]
  rw [hq] at HO
  rw [hB] at HNU
  unfold mathF at HM
  rw [hB, hq] at HM
  have htl : (bs t).toList = t := by rw [ByteArray.toList_eq]; rfl
  obtain ⟨s, hs⟩ : ∃ s, bs t = s := ⟨_, rfl⟩
  rw [hs] at HO HNU htl ⊢
  clear hB hq hM hs
  cases B with
  | false =>
    have HZ : Hid (M = (1, 0)) := hid (by rw [← HM.out, if_pos (.inl rfl)])
    go_enter Tryz.func17, Tryz.ntmps17
    go_wp2_with fail
    refine (HNU.out _).mono ?_
    rintro e w1 ⟨rfl, rfl⟩
    go_wp2
    go_ret2
    exact ⟨by rw [HZ.out]; rfl, Below.refl _ _⟩
  | true =>
    by_cases hk1 : k < 1
    · have HZ : Hid (M = (1, 0)) := hid (by rw [← HM.out, if_pos (.inr (.inl hk1))])
      go_enter Tryz.func17, Tryz.ntmps17
      go_wp2_with fail
      refine (HNU.out _).mono ?_
      rintro e w1 ⟨rfl, rfl⟩
      go_wp2
      go_ret2
      exact ⟨by rw [HZ.out]; rfl, Below.refl _ _⟩
    · by_cases hk2 : 12 < k
      · have HZ : Hid (M = (1, 0)) := hid (by rw [← HM.out, if_pos (.inr (.inr hk2))])
        go_enter Tryz.func17, Tryz.ntmps17
        go_wp2_with fail
        refine (HNU.out _).mono ?_
        rintro e w1 ⟨rfl, rfl⟩
        go_wp2
        go_ret2
        exact ⟨by rw [HZ.out]; rfl, Below.refl _ _⟩
      · obtain ⟨bI, hbI⟩ : ∃ x, (s.toList == [73]) = x := ⟨_, rfl⟩
        obtain ⟨bA, hbA⟩ : ∃ x, (a != wrap32 a) = x := ⟨_, rfl⟩
        obtain ⟨bB, hbB⟩ : ∃ x, (b != wrap32 b) = x := ⟨_, rfl⟩
        have eI : t = [73] ↔ bI = true := by rw [← hbI, htl]; simp
        have eA : a ≠ wrap32 a ↔ bA = true := by rw [← hbA]; simp
        have eB : b ≠ wrap32 b ↔ bB = true := by rw [← hbB]; simp
        have HY : Hid ((if (bI = true ∧ (bA = true ∨ bB = true)) ∨ (9 ≤ k ∧ k ≤ 11 ∧ bB = true) then ((2, 0) : Int × Int) else if c = false then (3, 0) else (0, n)) = M) := hid (by
          rw [← HM.out, if_neg (show ¬ (true = false ∨ k < 1 ∨ 12 < k) from by simp; omega)]
          simp only [eI, eA, eB])
        clear HM eI eA eB htl
        have h9 : k < 9 ∨ (9 ≤ k ∧ k ≤ 11) ∨ 11 < k := by omega
        rcases h9 with h9 | ⟨h9, h11⟩ | h9
        · have h9' : ¬ 9 ≤ k := by omega
          cases bI <;> cases bA <;> cases bB <;> cases c
          all_goals
            have HZ := hid HY.out
            clear HY
            simp [h9'] at HZ
            go_enter Tryz.func17, Tryz.ntmps17
            go_wp2_with fail
            refine (HNU.out _).mono ?_
            rintro e w1 ⟨rfl, rfl⟩
            go_wp2_with fail
            repeat
              refine (word_any _ _).mono ?_
              rintro e w1 ⟨rfl, rfl⟩
              go_wp2_with fail
            try
              refine (HO.out _).mono ?_
              rintro e w1 ⟨rfl, rfl⟩
              go_wp2_with fail
            go_ret2
            exact ⟨by rw [← HZ.out]; rfl, Below.refl _ _⟩
        · have h9' : ¬ k < 9 := by omega
          cases bI <;> cases bA <;> cases bB <;> cases c
          all_goals
            have HZ := hid HY.out
            clear HY
            simp [h9, h11] at HZ
            go_enter Tryz.func17, Tryz.ntmps17
            go_wp2_with fail
            refine (HNU.out _).mono ?_
            rintro e w1 ⟨rfl, rfl⟩
            go_wp2_with fail
            repeat
              refine (word_any _ _).mono ?_
              rintro e w1 ⟨rfl, rfl⟩
              go_wp2_with fail
            try
              refine (HO.out _).mono ?_
              rintro e w1 ⟨rfl, rfl⟩
              go_wp2_with fail
            go_ret2
            exact ⟨by rw [← HZ.out]; rfl, Below.refl _ _⟩
        · have h9' : 9 ≤ k := by omega
          have h11 : ¬ k ≤ 11 := by omega
          cases bI <;> cases bA <;> cases bB <;> cases c
          all_goals
            have HZ := hid HY.out
            clear HY
            simp [h9', h11] at HZ
            go_enter Tryz.func17, Tryz.ntmps17
            go_wp2_with fail
            refine (HNU.out _).mono ?_
            rintro e w1 ⟨rfl, rfl⟩
            go_wp2_with fail
            repeat
              refine (word_any _ _).mono ?_
              rintro e w1 ⟨rfl, rfl⟩
              go_wp2_with fail
            try
              refine (HO.out _).mono ?_
              rintro e w1 ⟨rfl, rfl⟩
              go_wp2_with fail
            go_ret2
            exact ⟨by rw [← HZ.out]; rfl, Below.refl _ _⟩
end Go.Proofs.YtloeaihbnnnncaaGreatDoor.desks

/- The command math, its words being numerals. Conditions: the variables that the library reads hold what they hold at the start; the words are not long. -/
set_option linter.unusedSimpArgs false
set_option linter.unusedVariables false
namespace Go.Proofs.YtloeaihbnnnncaaGreatDoor.desks
open Go.RowKit Go.Proofs.YtloeaihbnnnncaaGreatDoor.lib Go.Proofs.YtloeaihbnnnncaaGreatDoor.keep Go.Proofs.YtloeaihbnnnncaaGreatDoor.errs Go.Proofs.YtloeaihbnnnncaaGreatDoor.names Go.Proofs.YtloeaihbnnnncaaGreatDoor.descs Go.Proofs.YtloeaihbnnnncaaGreatDoor.ins Go.Proofs.YtloeaihbnnnncaaGreatDoor.nums Go.Proofs.YtloeaihbnnnncaaGreatDoor.flows Go.Proofs.YtloeaihbnnnncaaGreatDoor.txts Go.Proofs.YtloeaihbnnnncaaGreatDoor.maps Go.Proofs.YtloeaihbnnnncaaGreatDoor.worlds Go.Proofs.YtloeaihbnnnncaaGreatDoor.grow

def eqR (x : Value) : Value → World → Prop := fun v _ => v = x
theorem eqR_stays (x : Value) : ∀ v u u', Below u.heap.size u u' → eqR x v u → eqR x v u' := fun _ _ _ _ h => h
/-- what the command math tells -/
def mathT (t : List UInt8) (k a b : Int) : List UInt8 := if (mathF t k a b).1 = 0 then Lib.itoa (mathF t k a b).2 else errName (mathF t k a b).1
theorem wrap_in (n : Int) : InR (wrap32 n) := by unfold wrap32 InR; omega
theorem below_at {w w' : World} {A : Nat} (hb : Below w.heap.size w w') (hA : A < w.heap.size) : w'.heap[A]? = w.heap[A]? := hb.block _ hA
set_option maxRecDepth 100000 in
set_option maxHeartbeats 8000000 in
theorem math_tell (vd vs : Value) (t l1 l2 l3 : List UInt8) (k a b : Int) (w : World) (A : Nat) (hA : A < w.heap.size) (hv : Vars w) (h1 : numW l1 = some k) (h2 : numW l2 = some a) (h3 : numW l3 = some b) (s1 : l1.length ≤ 10000000) (s2 : l2.length ≤ 10000000) (s3 : l3.length ≤ 10000000)
    (hs : Sl w vs 4 1 [sv t, sv l1, sv l2, sv l3]) (hin : InR (mathF t k a b).2) :
    Calls Tryz.prog 138 #[vd, vs] w (TellBy A (fun x u => x = mathT t k a b ∧ Below w.heap.size w u) w) := by
  obtain ⟨ad, cp, rfl⟩ := hs.val
  obtain ⟨g, o, rfl, _, _, _⟩ := hs.at1 (k := 0) (by decide)
  have HC : Hid (∀ u, Below w.heap.size w u → u.cell? ⟨g, o, none⟩ = some (.string (bs t)) ∧ u.cell? ⟨g, o + 1, none⟩ = some (.string (bs l1)) ∧ u.cell? ⟨g, o + 2, none⟩ = some (.string (bs l2)) ∧ u.cell? ⟨g, o + 3, none⟩ = some (.string (bs l3))) := hid (fun u hu => by
    have key : ∀ (j : Nat) (x : List UInt8), j < 4 → [sv t, sv l1, sv l2, sv l3][j]? = some (sv x) → u.cell? ⟨g, o + j, none⟩ = some (.string (bs x)) := fun j x hj hx => by
      obtain ⟨g', o', he, y, hy, hc⟩ := (hs.below hu).at1 hj
      cases he
      rw [hx] at hy
      rw [hc, ← Option.some.inj hy]
      rfl
    exact ⟨key 0 t (by decide) rfl, key 1 l1 (by decide) rfl, key 2 l2 (by decide) rfl, key 3 l3 (by decide) rfl⟩)
  have HN : Hid (∀ (l : List UInt8) (n : Int) (u : World), numW l = some n → l.length ≤ 10000000 → Below w.heap.size w u → Calls Tryz.prog 139 #[.string (bs l)] u fun e u' => e = .returned (.int .i64 n) ∧ Below u.heap.size u u') := hid (fun l n u hl hsz hu => (number_any (bs l) u (hv.below hu) (by rw [bs_size]; exact hsz)).mono fun e u' h => by
    obtain ⟨h, hb⟩ := h
    rw [show (bs l).data.toList = l from rfl, hl] at h
    exact ⟨h, hb⟩)
  have HN1 := hid (fun u hu => HN.out l1 k u h1 s1 hu)
  have HN2 := hid (fun u hu => HN.out l2 a u h2 s2 hu)
  have HN3 := hid (fun u hu => HN.out l3 b u h3 s3 hu)
  have HM := hid (fun u => math_any t k a b u)
  have HI := hid (fun u (hu : Below w.heap.size w u) => itoa_any (mathF t k a b).2 u hin (hv.below hu).pow)
  have HA := hid hA
  have HT : Hid (∀ z n, mathF t k a b = (z, n) → mathT t k a b = if z = 0 then Lib.itoa n else errName z) := hid (fun z n h => by unfold mathT; rw [h])
  obtain ⟨T, hT⟩ : ∃ T, mathT t k a b = T := ⟨_, rfl⟩
  obtain ⟨z, n, hz⟩ : ∃ z n, mathF t k a b = (z, n) := ⟨_, _, rfl⟩
  have HT2 : Hid (T = if z = 0 then Lib.itoa n else errName z) := hid (by rw [← hT]; exact HT.out z n hz)
  rw [hz] at HM HI
  rw [hT]
  obtain ⟨x0, hx0⟩ : ∃ x, bs t = x := ⟨_, rfl⟩
  obtain ⟨x1, hx1⟩ : ∃ x, bs l1 = x := ⟨_, rfl⟩
  obtain ⟨x2, hx2⟩ : ∃ x, bs l2 = x := ⟨_, rfl⟩
  obtain ⟨x3, hx3⟩ : ∃ x, bs l3 = x := ⟨_, rfl⟩
  rw [hx0, hx1, hx2, hx3] at HC
  rw [hx0] at HM
  rw [hx1] at HN1
  rw [hx2] at HN2
  rw [hx3] at HN3
  clear hv h1 h2 h3 s1 s2 s3 hs hin HN HT hT hz hx0 hx1 hx2 hx3 hA
  go_enter Tryz.func138, Tryz.ntmps138
  go_wp2_with fail
  refine wp_region_ext [(3, eqR (.int .i64 k)), (7, eqR (.int .i64 a)), (11, eqR (.int .i64 b))] ⟨eqR_stays _, eqR_stays _, eqR_stays _, trivial⟩ (by kernel_rfl) (by kernel_rfl) ?_
  refine wpG_calc 1 rfl rfl rfl (fun u => by go_simp; rfl) ?_
  simp only [Act.put, List.setIfInBounds_toArray, List.set_cons_zero, List.set_cons_succ]
  refine wpG_calc 2 rfl rfl rfl (fun u => by go_simp; rfl) ?_
  simp only [Act.put, List.setIfInBounds_toArray, List.set_cons_zero, List.set_cons_succ]
  refine wpG_read 3 rfl rfl (.string x1) rfl ?_ ?_
  · intro u hu hh
    obtain ⟨c0, c1, c2, c3⟩ := HC.out u hu
    go_simp
    try rfl
  simp only [Act.put, List.setIfInBounds_toArray, List.set_cons_zero, List.set_cons_succ]
  refine wpG_rel 4 rfl rfl rfl ?_ ?_
  · intro u hu hh
    go_simp
    refine (HN1.out u hu).mono ?_
    rintro e u2 ⟨rfl, hb2⟩
    exact ⟨_, rfl, rfl, hb2⟩
  intro v1 ⟨u1, _, hr1⟩
  obtain rfl := hr1
  simp only [Act.put, List.setIfInBounds_toArray, List.set_cons_zero, List.set_cons_succ]
  refine wpG_calc 5 rfl rfl rfl (fun u => by go_simp; rfl) ?_
  simp only [Act.put, List.setIfInBounds_toArray, List.set_cons_zero, List.set_cons_succ]
  refine wpG_calc 6 rfl rfl rfl (fun u => by go_simp; rfl) ?_
  simp only [Act.put, List.setIfInBounds_toArray, List.set_cons_zero, List.set_cons_succ]
  refine wpG_read 7 rfl rfl (.string x2) rfl ?_ ?_
  · intro u hu hh
    obtain ⟨c0, c1, c2, c3⟩ := HC.out u hu
    go_simp
    try rfl
  simp only [Act.put, List.setIfInBounds_toArray, List.set_cons_zero, List.set_cons_succ]
  refine wpG_rel 8 rfl rfl rfl ?_ ?_
  · intro u hu hh
    go_simp
    refine (HN2.out u hu).mono ?_
    rintro e u2 ⟨rfl, hb2⟩
    exact ⟨_, rfl, rfl, hb2⟩
  intro v2 ⟨u2, _, hr2⟩
  obtain rfl := hr2
  simp only [Act.put, List.setIfInBounds_toArray, List.set_cons_zero, List.set_cons_succ]
  refine wpG_calc 9 rfl rfl rfl (fun u => by go_simp; rfl) ?_
  simp only [Act.put, List.setIfInBounds_toArray, List.set_cons_zero, List.set_cons_succ]
  refine wpG_calc 10 rfl rfl rfl (fun u => by go_simp; rfl) ?_
  simp only [Act.put, List.setIfInBounds_toArray, List.set_cons_zero, List.set_cons_succ]
  refine wpG_read 11 rfl rfl (.string x3) rfl ?_ ?_
  · intro u hu hh
    obtain ⟨c0, c1, c2, c3⟩ := HC.out u hu
    go_simp
    try rfl
  simp only [Act.put, List.setIfInBounds_toArray, List.set_cons_zero, List.set_cons_succ]
  refine wpG_rel 12 rfl rfl rfl ?_ ?_
  · intro u hu hh
    go_simp
    refine (HN3.out u hu).mono ?_
    rintro e u2 ⟨rfl, hb2⟩
    exact ⟨_, rfl, rfl, hb2⟩
  intro v3 ⟨u3, _, hr3⟩
  obtain rfl := hr3
  simp only [Act.put, List.setIfInBounds_toArray, List.set_cons_zero, List.set_cons_succ]
  refine wpG_calc 13 rfl rfl rfl (fun u => by go_simp; rfl) ?_
  simp only [Act.put, List.setIfInBounds_toArray, List.set_cons_zero, List.set_cons_succ]
  refine wpG_calc 14 rfl rfl rfl (fun u => by go_simp; rfl) ?_
  simp only [Act.put, List.setIfInBounds_toArray, List.set_cons_zero, List.set_cons_succ]
  refine wpG_calc 15 rfl rfl rfl (fun u => by go_simp; rfl) ?_
  simp only [Act.put, List.setIfInBounds_toArray, List.set_cons_zero, List.set_cons_succ]
  refine wpG_nil fun w' hb' hF => ?_
  have HBW := hid hb'
  obtain ⟨c0, c1, c2, c3⟩ := HC.out w' hb'
  clear hb' hF
  go_wp2_with fail
  refine (HM.out _).mono ?_
  rintro e w2 ⟨rfl, hb2⟩
  have HB2 := hid (HBW.out.trans (hb2.mono HBW.out.size))
  clear hb2
  by_cases hz : z = 0
  · have HE : Hid (T = Lib.itoa n) := hid (by rw [HT2.out, if_pos hz])
    rw [show errVal z = .nilIface from by unfold errVal; rw [if_pos hz]]
    go_wp2_with fail
    refine (mustI_ok n _).mono ?_
    rintro e w3 ⟨rfl, rfl⟩
    go_wp2_with fail
    refine (HI.out _ HB2.out).mono ?_
    rintro e w4 ⟨rfl, hb4⟩
    have HB4 := hid (HB2.out.trans (hb4.mono HB2.out.size))
    clear hb4
    go_wp2_with fail
    go_ret
    exact ⟨HB4.out.block _ HA.out, .inl ⟨T, by rw [HE.out]; rfl, rfl, HB4.out⟩⟩
  · have HE : Hid (T = errName z) := hid (by rw [HT2.out, if_neg hz])
    rw [show errVal z = .iface 58 (.int .i64 z) from by unfold errVal; rw [if_neg hz]]
    go_wp2_with fail
    refine (mustI_err n z _).mono ?_
    rintro e w3 ⟨rfl, rfl⟩
    exact ⟨rfl, HB2.out.block _ HA.out, .inr ⟨z, rfl, HE.out.symm, HB2.out⟩⟩
end Go.Proofs.YtloeaihbnnnncaaGreatDoor.desks
