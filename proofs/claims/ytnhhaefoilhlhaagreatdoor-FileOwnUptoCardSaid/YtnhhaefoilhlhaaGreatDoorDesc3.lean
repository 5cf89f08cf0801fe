/- Types as texts: the reference's TypeAt and IsType. Condition: the index lies within the text. -/
import Derived.Test.YtnhhaefoilhlhaaGreatDoorDesc2
namespace Go.Proofs.YtnhhaefoilhlhaaGreatDoor.descs
open Go.RowKit Go.Proofs.YtnhhaefoilhlhaaGreatDoor.lib Go.Proofs.YtnhhaefoilhlhaaGreatDoor.errs Go.Proofs.YtnhhaefoilhlhaaGreatDoor.names

theorem index_first {l : List UInt8} {c : UInt8} {o : Nat} (h : ∀ j, j < o → l[j]? ≠ some c) (ho : l[o]? = some c) : Lib.indexByte l c = (o : Int) := by
  have hge := Lib.indexByte_ge l c
  by_cases hi : Lib.indexByte l c = -1
  · exact absurd ho (Lib.indexByte_none hi o)
  · obtain ⟨o', ho'⟩ : ∃ o' : Nat, Lib.indexByte l c = (o' : Int) := ⟨(Lib.indexByte l c).toNat, by omega⟩
    obtain ⟨h1, h2⟩ := Lib.indexByte_some ho'
    have : o' = o := by
      rcases Nat.lt_trichotomy o' o with h3 | h3 | h3
      · exact absurd h1 (h o' h3)
      · exact h3
      · exact absurd ho (h2 o h3)
    rw [ho', this]
theorem index_never {l : List UInt8} {c : UInt8} (h : ∀ j, j < l.length → l[j]? ≠ some c) : Lib.indexByte l c = -1 := by
  have hge := Lib.indexByte_ge l c
  by_cases hi : Lib.indexByte l c = -1
  · exact hi
  · obtain ⟨o', ho'⟩ : ∃ o' : Nat, Lib.indexByte l c = (o' : Int) := ⟨(Lib.indexByte l c).toNat, by omega⟩
    obtain ⟨h1, h2⟩ := Lib.indexByte_some ho'
    exact absurd h1 (h o' (List.getElem?_eq_some_iff.1 h1).1)

theorem drop_byte {s : ByteArray} {i : Nat} (h : i < s.size) : s.data.toList.drop i = s[i] :: s.data.toList.drop (i + 1) := by
  have hl : i < s.data.toList.length := by rw [size_len]; exact h
  rw [List.drop_eq_getElem_cons hl]
  congr 1

/-- what lies behind the opening brackets -/
def Behind (S : List UInt8) (at_ i : Nat) : Prop := (S.drop at_).dropWhile (· == (91 : UInt8)) = (S.drop i).dropWhile (· == (91 : UInt8))

theorem behind_step {s : ByteArray} {at_ i : Nat} (h : Behind s.data.toList at_ i) (hi : i < s.size) (hc : s[i] = 91) : Behind s.data.toList at_ (i + 1) := by
  unfold Behind at *
  rw [h, drop_byte hi, hc]; rfl
theorem behind_end {s : ByteArray} {at_ i : Nat} (h : Behind s.data.toList at_ i) (hi : i < s.size) (hc : ¬ s[i] = 91) : (s.data.toList.drop at_).dropWhile (· == (91 : UInt8)) = s[i] :: s.data.toList.drop (i + 1) := by
  unfold Behind at h
  rw [h, drop_byte hi, List.dropWhile_cons, if_neg (by simpa using hc)]
theorem behind_out {s : ByteArray} {at_ i : Nat} (h : Behind s.data.toList at_ i) (hi : s.size ≤ i) : (s.data.toList.drop at_).dropWhile (· == (91 : UInt8)) = [] := by
  unfold Behind at h
  rw [h, List.drop_eq_nil_of_le (by rw [size_len]; exact hi)]; rfl
theorem behind_len {s : ByteArray} {at_ i : Nat} (ha : at_ ≤ i) (hi : i < s.size) : (s.data.toList.drop at_).length - (s[i] :: s.data.toList.drop (i + 1)).length = i - at_ := by
  rw [← drop_byte hi, List.length_drop, List.length_drop, size_len]; omega

/-- where a type ends; 0: there is none -/
def tyEnd (b n : Nat) : Value := .int .i64 ((if n = 0 then 0 else b + n : Nat) : Int)
theorem tyEnd_no {b n : Nat} (h : n = 0) : tyEnd b n = .int .i64 0 := by unfold tyEnd; rw [if_pos h]; rfl
theorem tyEnd_yes {b n : Nat} {z : Int} (h : n ≠ 0) (hz : z = ((b + n : Nat) : Int)) : tyEnd b n = .int .i64 z := by unfold tyEnd; rw [if_neg h, hz]

end Go.Proofs.YtnhhaefoilhlhaaGreatDoor.descs

/- Types ts texts: desc.Method. Condition: the text is not long. -/
namespace Go.Proofs.YtnhhaefoilhlhaaGreatDoor.descs
open Go.RowKit Go.Proofs.YtnhhaefoilhlhaaGreatDoor.lib Go.Proofs.YtnhhaefoilhlhaaGreatDoor.errs Go.Proofs.YtnhhaefoilhlhaaGreatDoor.names

def bs (l : List UInt8) : ByteArray := ⟨l.toArray⟩
def sv (l : List UInt8) : Value := .string (bs l)
theorem bs_data (l : List UInt8) : (bs l).data.toList = l := rfl
theorem bs_eq (s : ByteArray) : s = bs s.data.toList := rfl
theorem bs_size (l : List UInt8) : (bs l).size = l.length := rfl
theorem bs_of {s : ByteArray} {l : List UInt8} (h : s.data.toList = l) : s = bs l := by subst h; rfl
theorem extract_bs (s : ByteArray) (i j : Nat) : s.extract i j = bs ((s.data.toList.take j).drop i) := by
  apply bs_of
  rw [Lib.extract_data, List.drop_take]

/-- the types one behind the other, and what lies behind them -/
def scan (l : List UInt8) : List (List UInt8) × List UInt8 :=
  if _h : l.head? = some 41 ∨ tyLen l = 0 then ([], l) else (l.take (tyLen l) :: (scan (l.drop (tyLen l))).1, (scan (l.drop (tyLen l))).2)
termination_by l.length
decreasing_by
  all_goals
    have h1 := tyLen_le l
    rw [List.length_drop]
    simp only [not_or] at _h
    omega
theorem scan_stop {l : List UInt8} (h : l.head? = some 41 ∨ tyLen l = 0) : scan l = ([], l) := by rw [scan, dif_pos h]
theorem scan_step {l : List UInt8} (h : ¬ l.head? = some 41) (h2 : tyLen l ≠ 0) : scan l = (l.take (tyLen l) :: (scan (l.drop (tyLen l))).1, (scan (l.drop (tyLen l))).2) := by
  rw [scan, dif_neg (by rintro (h3 | h3); exact h h3; exact h2 h3)]

/-- the types of which a method's is made -/
def methodOf : List UInt8 → Option (List (List UInt8) × List UInt8)
  | c :: l => if c = 40 ∧ (scan l).2.head? = some 41 ∧ (scan l).1.length ≤ 5 ∧ ((scan l).2.drop 1 = [86] ∨ isTy ((scan l).2.drop 1) = true) then some ((scan l).1, (scan l).2.drop 1) else none
  | [] => none

/-- Method's answer -/
def MethodBy (w : World) (S : List UInt8) (e : Ending) (w' : World) : Prop :=
  match methodOf S with
  | some (ts, g) => ∃ v, e = .returned (.tuple #[v, .string (bs g), .nilIface]) ∧ Out w w' 9 1 v ts.length (ts.map sv)
  | none => e = .returned (.tuple #[.slice none 0 0, .string { data := #[] }, .iface 36 (.int .i64 1)]) ∧ Below w.heap.size w w'
theorem methodBy_no {w w' : World} {S : List UInt8} (h : methodOf S = none) (hb : Below w.heap.size w w') : MethodBy w S (.returned (.tuple #[.slice none 0 0, .string { data := #[] }, .iface 36 (.int .i64 1)])) w' := by
  unfold MethodBy; rw [h]; exact ⟨rfl, hb⟩
theorem methodBy_yes {w w' : World} {S g : List UInt8} {ts : List (List UInt8)} {v : Value} (h : methodOf S = some (ts, g)) (ho : Out w w' 9 1 v ts.length (ts.map sv)) : MethodBy w S (.returned (.tuple #[v, .string (bs g), .nilIface])) w' := by
  unfold MethodBy; rw [h]; exact ⟨v, rfl, ho⟩

theorem prefix_one (l : List UInt8) (c : UInt8) : Lib.hasPrefix l [c] = decide (l.head? = some c) := by
  rw [Bool.eq_iff_iff, decide_eq_true_eq]
  cases l with
  | nil => simp [Lib.hasPrefix]
  | cons b r =>
    simp only [Lib.hasPrefix, List.isPrefixOf, List.head?_cons, Bool.and_true, Option.some.injEq, beq_iff_eq]
    exact eq_comm
theorem cutPrefix_any (s : ByteArray) (w : World) : Calls Tryz.prog 68 #[.string s, .string { data := #[40] }] w fun e w' =>
    e = .returned (if s.data.toList.head? = some 40 then .tuple #[.string (bs (s.data.toList.drop 1)), .bool true] else .tuple #[.string s, .bool false]) ∧ w = w' := by
  refine (Tryz.strings_CutPrefix s { data := #[40] } w).mono ?_
  rintro e w' ⟨rfl, rfl⟩
  have h := prefix_one s.data.toList 40
  refine ⟨?_, rfl⟩
  show Ending.returned (.tuple #[.string ⟨(Lib.trimPrefix s.data.toList [40]).toArray⟩, .bool (Lib.hasPrefix s.data.toList [40])]) = _
  unfold Lib.trimPrefix
  rw [h]
  by_cases h1 : s.data.toList.head? = some 40
  · rw [if_pos h1, decide_eq_true h1, if_pos rfl]; exact congrArg Ending.returned rfl
  · rw [if_neg h1, decide_eq_false h1, if_neg (by decide)]
theorem hasPrefix_any (s : ByteArray) (w : World) : Calls Tryz.prog 69 #[.string s, .string { data := #[41] }] w fun e w' =>
    e = .returned (.bool (decide (s.data.toList.head? = some 41))) ∧ w = w' := by
  refine (Tryz.strings_HasPrefix s { data := #[41] } w).mono ?_
  rintro e w' ⟨rfl, rfl⟩
  exact ⟨by rw [← prefix_one], rfl⟩
theorem trimPrefix_any (s : ByteArray) (w : World) : Calls Tryz.prog 70 #[.string s, .string { data := #[41] }] w fun e w' =>
    e = .returned (.string (bs (if s.data.toList.head? = some 41 then s.data.toList.drop 1 else s.data.toList))) ∧ w = w' := by
  refine (Tryz.strings_TrimPrefix s { data := #[41] } w).mono ?_
  rintro e w' ⟨rfl, rfl⟩
  refine ⟨?_, rfl⟩
  show Ending.returned (.string ⟨(Lib.trimPrefix s.data.toList [41]).toArray⟩) = _
  unfold Lib.trimPrefix
  rw [prefix_one]
  by_cases h1 : s.data.toList.head? = some 41
  · rw [decide_eq_true h1, if_pos rfl, if_pos h1]; rfl
  · rw [decide_eq_false h1, if_neg (by decide), if_neg h1]; rfl

theorem infoStr : (Tryz.prog.info? 9).map (fun i => (i.zero, i.size, i.bytes)) = some (some (.string { data := #[] }), 1, 16) := by kernel_rfl

def slenS : Value → Nat | .string b => b.size | _ => 0
def bnat : Value → Nat | .bool true => 1 | _ => 0

/-- after some rounds: what is left, what is made -/
structure MetRel (w wr : World) (l : List UInt8) (R : ByteArray) (v : Value) (ts : List (List UInt8)) : Prop where
  out : Out w wr 9 1 v ts.length (ts.map sv)
  says : scan l = (ts ++ (scan R.data.toList).1, (scan R.data.toList).2)
  few : ts.length + R.size ≤ l.length

theorem MetRel.step {w wr w' : World} {l : List UInt8} {R : ByteArray} {v v' : Value} {ts : List (List UInt8)} (h : MetRel w wr l R v ts) (h1 : ¬ R.data.toList.head? = some 41) (h2 : tyLen R.data.toList ≠ 0)
    (ho : Out w w' 9 1 v' (ts.length + 1) (ts.map sv ++ [.string (R.extract 0 (tyLen R.data.toList))])) : MetRel w w' l (R.extract (tyLen R.data.toList) R.size) v' (ts ++ [R.data.toList.take (tyLen R.data.toList)]) := by
  have hle := tyLen_le R.data.toList
  rw [size_len] at hle
  refine ⟨?_, ?_, ?_⟩
  · have : (ts ++ [R.data.toList.take (tyLen R.data.toList)]).map sv = ts.map sv ++ [.string (R.extract 0 (tyLen R.data.toList))] := by
      rw [List.map_append, extract_bs]; rfl
    rw [this, List.length_append]; exact ho
  · have hd : (R.extract (tyLen R.data.toList) R.size).data.toList = R.data.toList.drop (tyLen R.data.toList) := by
      rw [extract_bs, bs_data, ← size_len, List.take_length]
    rw [hd, h.says, scan_step h1 h2]
    simp
  · have := h.few
    rw [List.length_append, ByteArray.size_extract]
    simp only [List.length_cons, List.length_nil]; omega

theorem met_end {S l : List UInt8} {w wr : World} {R : ByteArray} {v : Value} {ts : List (List UInt8)} (hS : S = 40 :: l) (h : MetRel w wr l R v ts) (h1 : R.data.toList.head? = some 41) :
    methodOf S = if ts.length ≤ 5 ∧ (R.data.toList.drop 1 = [86] ∨ isTy (R.data.toList.drop 1) = true) then some (ts, R.data.toList.drop 1) else none := by
  have h2 := h.says
  rw [scan_stop (.inl h1)] at h2
  subst hS
  simp only [methodOf, h2, List.append_nil, h1, true_and]
theorem met_stuck {S l : List UInt8} {w wr : World} {R : ByteArray} {v : Value} {ts : List (List UInt8)} (hS : S = 40 :: l) (h : MetRel w wr l R v ts) (h1 : ¬ R.data.toList.head? = some 41) (h0 : tyLen R.data.toList = 0) : methodOf S = none := by
  have h2 := h.says
  rw [scan_stop (.inr h0)] at h2
  subst hS
  simp only [methodOf, h2, h1, false_and, and_false, if_false]

set_option maxRecDepth 100000 in
set_option maxHeartbeats 2000000 in
theorem method_any (s : ByteArray) (w : World) (hs : s.size ≤ 10000000) : Calls Tryz.prog 50 #[.string s] w (MethodBy w s.data.toList) := by
  have HL := hid (size_len s)
  by_cases h40 : s.data.toList.head? = some 40
  · obtain ⟨l, hl⟩ : ∃ l, s.data.toList = 40 :: l := by
      cases h : s.data.toList with
      | nil => rw [h] at h40; cases h40
      | cons b r => rw [h] at h40; cases h40; exact ⟨r, rfl⟩
    have H40 := hid h40; have HS := hid hl
    have hll : l.length + 1 = s.size := by rw [← HL.out, hl]; rfl
    have hl1 : s.data.toList.drop 1 = l := by rw [hl]; rfl
    have HD := hid hl1
    clear h40 hl hl1
    go_enter Tryz.func50, Tryz.ntmps50
    go_wp2_with fail
    refine (cutPrefix_any s _).mono ?_
    rintro e w1 ⟨rfl, rfl⟩
    rw [if_pos H40.out, HD.out]
    go_wp2_with fail
    go_loopw [5, 6, 7] (fun r i v wr => ∃ R ts, r = .string R ∧ ((i = .bool true ∧ Hid (MetRel w wr l R v ts)) ∨ (i = .bool false ∧ Hid (methodOf s.data.toList = none ∧ Below w.heap.size w wr)))) (fun r i _ _ => slenS r + bnat i)
    case atStart => exact ⟨bs l, [], rfl, .inl ⟨rfl, hid ⟨Out.nil _ _ _, by simp [bs_data], by rw [bs_size]; simp⟩⟩⟩
    case round =>
      obtain ⟨R, ts, rfl, ⟨rfl, HR⟩ | ⟨rfl, HN⟩⟩ := hrel
      · have hfew := HR.out.few
        have hRs : R.size ≤ 10000000 := by omega
        by_cases h41 : R.data.toList.head? = some 41
        · have HE := hid (met_end HS.out HR.out h41)
          obtain ⟨a, c, rfl⟩ := HR.out.out.sl.val
          obtain ⟨G, hG⟩ : ∃ G, bs (R.data.toList.drop 1) = G := ⟨_, rfl⟩
          have hGs : G.size ≤ 10000000 := by rw [← hG, bs_size, List.length_drop, size_len]; omega
          have hGd : G.data.toList = R.data.toList.drop 1 := by rw [← hG]; rfl
          rw [← hGd] at HE
          have H41 := hid h41; have HG := hid hG
          clear h41 hG hGd
          by_cases h5 : ts.length ≤ 5
          · have k5 : ¬ (5 : Int) < (ts.length : Int) := by omega
            by_cases hV : G.data.toList = [86]
            · have g1 : G.toList = [86] := str_list.2 hV
              have HM : Hid (methodOf s.data.toList = some (ts, G.data.toList)) := hid (by rw [HE.out, if_pos ⟨h5, .inl hV⟩])
              clear hV h5
              go_wp2_with fail
              refine (hasPrefix_any R _).mono ?_
              rintro e w2 ⟨rfl, rfl⟩
              rw [decide_eq_true H41.out]
              go_wp2_with fail
              refine (trimPrefix_any R _).mono ?_
              rintro e w2 ⟨rfl, rfl⟩
              rw [if_pos H41.out, HG.out]
              go_wp2_with fail
              go_ret3
              exact methodBy_yes HM.out HR.out.out
            · have g1 : ¬ G.toList = [86] := fun h => hV (str_list.1 h)
              have g2 : (G.toList == [86]) = false := beq_eq_false_iff_ne.2 g1
              cases hT : isTy G.data.toList with
              | true =>
                have HM : Hid (methodOf s.data.toList = some (ts, G.data.toList)) := hid (by rw [HE.out, if_pos ⟨h5, .inr hT⟩])
                have HT := hid hT
                clear hV h5 hT
                go_wp2_with fail
                refine (hasPrefix_any R _).mono ?_
                rintro e w2 ⟨rfl, rfl⟩
                rw [decide_eq_true H41.out]
                go_wp2_with fail
                refine (trimPrefix_any R _).mono ?_
                rintro e w2 ⟨rfl, rfl⟩
                rw [if_pos H41.out, HG.out]
                go_wp2_with fail
                refine (tcheck_any G _ (by omega)).mono ?_
                intro e w3 h3
                obtain ⟨rfl, hb3⟩ := checked_true h3 HT.out
                clear h3
                go_wp2_with fail
                go_ret3
                exact methodBy_yes HM.out (HR.out.out.later hb3)
              | false =>
                have HM : Hid (methodOf s.data.toList = none) := hid (by rw [HE.out, if_neg]; rintro ⟨_, h | h⟩; exact hV h; rw [hT] at h; cases h)
                have HT := hid hT
                clear hV h5 hT
                go_wp2_with fail
                refine (hasPrefix_any R _).mono ?_
                rintro e w2 ⟨rfl, rfl⟩
                rw [decide_eq_true H41.out]
                go_wp2_with fail
                refine (trimPrefix_any R _).mono ?_
                rintro e w2 ⟨rfl, rfl⟩
                rw [if_pos H41.out, HG.out]
                go_wp2_with fail
                refine (tcheck_any G _ (by omega)).mono ?_
                intro e w3 h3
                obtain ⟨rfl, hb3⟩ := checked_false h3 HT.out
                clear h3
                go_wp2_with fail
                go_ret3
                exact methodBy_no HM.out (HR.out.out.below.trans (hb3.mono HR.out.out.below.size))
          · have k5 : (5 : Int) < (ts.length : Int) := by omega
            have HM : Hid (methodOf s.data.toList = none) := hid (by rw [HE.out, if_neg]; rintro ⟨h, _⟩; exact h5 h)
            clear h5
            go_wp2_with fail
            refine (hasPrefix_any R _).mono ?_
            rintro e w2 ⟨rfl, rfl⟩
            rw [decide_eq_true H41.out]
            go_wp2_with fail
            refine (trimPrefix_any R _).mono ?_
            rintro e w2 ⟨rfl, rfl⟩
            rw [if_pos H41.out, HG.out]
            go_wp2_with fail
            go_ret3
            exact methodBy_no HM.out HR.out.out.below
        · have H41 := hid h41
          by_cases h0 : tyLen R.data.toList = 0
          · have HM := hid (met_stuck HS.out HR.out h41 h0)
            have H0 := hid h0
            clear h41 h0
            go_wp2_with fail
            refine (hasPrefix_any R _).mono ?_
            rintro e w2 ⟨rfl, rfl⟩
            rw [decide_eq_false H41.out]
            go_wp2_with fail
            refine (cut_any R _ (by omega)).mono ?_
            rintro e w3 ⟨rfl, hb3⟩
            rw [if_pos H0.out]
            go_wp2_with fail
            go_roundw
            case rel => exact ⟨R, ts, rfl, .inr ⟨rfl, hid ⟨HM.out, HR.out.out.below.trans (hb3.mono HR.out.out.below.size)⟩⟩⟩
            case measure => simp [slenS, bnat]
          · have hstep := fun (w' : World) (v' : Value) => MetRel.step (w' := w') (v' := v') HR.out h41 h0
            have HSTEP := hid hstep
            have hle := tyLen_le R.data.toList
            rw [size_len] at hle
            have H0 := hid h0
            have hn : 0 < tyLen R.data.toList := by omega
            clear h41 h0 hstep
            go_wp2_with fail
            refine (hasPrefix_any R _).mono ?_
            rintro e w2 ⟨rfl, rfl⟩
            rw [decide_eq_false H41.out]
            go_wp2_with fail
            refine (cut_any R _ (by omega)).mono ?_
            rintro e w3 ⟨rfl, hb3⟩
            rw [if_neg H0.out]
            have hout := HR.out.out.later hb3
            generalize tyLen R.data.toList = n at hle hn HSTEP ⊢
            go_wp2_with (at_builtin; go_loud (refine wpList_append_lit w _ _ rfl _ _ 22 rfl 9 (.string { data := #[] }) 1 16 _ Tryz.underlying22 infoStr rfl (by decide) _ _ _ hout rfl rfl rfl ?_ ?_ ?_ ?_))
            all_goals first | (intro v' w' hout' _hg) | omega | (simp [Value.oneCell']; done) | skip
            all_goals go_wp2
            all_goals go_roundw
            case rel => exact ⟨_, _, rfl, .inl ⟨rfl, hid (HSTEP.out _ _ hout')⟩⟩
            case measure => simp [slenS, bnat, ByteArray.size_extract]; omega
      · go_wp2_with fail
        refine (trimPrefix_any R _).mono ?_
        rintro e w2 ⟨rfl, rfl⟩
        generalize bs (if R.data.toList.head? = some 41 then R.data.toList.drop 1 else R.data.toList) = G
        go_wp2_with fail
        go_ret3
        exact methodBy_no HN.out.1 HN.out.2
  · have HN : Hid (methodOf s.data.toList = none) := hid (by
      cases h : s.data.toList with
      | nil => rfl
      | cons c l => simp only [methodOf]; rw [if_neg]; rintro ⟨rfl, _⟩; rw [h] at h40; exact h40 rfl)
    have H40 := hid h40; clear h40
    go_enter Tryz.func50, Tryz.ntmps50
    go_wp2_with fail
    refine (cutPrefix_any s _).mono ?_
    rintro e w1 ⟨rfl, rfl⟩
    rw [if_neg H40.out]
    go_wp2_with fail
    go_loopw [5, 6, 7] (fun r i v wr => ∃ R, r = .string R ∧ i = .bool false ∧ w = wr) (fun r i _ _ => slenS r + bnat i)
    case atStart => exact ⟨s, rfl, rfl, rfl⟩
    case round =>
      obtain ⟨R, rfl, rfl, rfl⟩ := hrel
      go_wp2_with fail
      refine (trimPrefix_any R _).mono ?_
      rintro e w2 ⟨rfl, rfl⟩
      generalize bs (if R.data.toList.head? = some 41 then R.data.toList.drop 1 else R.data.toList) = G
      go_wp2_with fail
      go_ret3
      exact methodBy_no HN.out (Below.refl _ _)

end Go.Proofs.YtnhhaefoilhlhaaGreatDoor.descs
