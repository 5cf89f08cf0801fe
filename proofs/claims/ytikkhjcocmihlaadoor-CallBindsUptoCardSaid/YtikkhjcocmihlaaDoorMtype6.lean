/- Types of methods, changed: mtype.Put. Condition: the text is not long. -/
import Derived.Test.YtikkhjcocmihlaaDoorInsert
namespace Go.Proofs.YtikkhjcocmihlaaDoor.mtypes
open Go.RowKit Go.Proofs.YtikkhjcocmihlaaDoor.lib Go.Proofs.YtikkhjcocmihlaaDoor.errs Go.Proofs.YtikkhjcocmihlaaDoor.names Go.Proofs.YtikkhjcocmihlaaDoor.texts Go.Proofs.YtikkhjcocmihlaaDoor.descs

/-- one more type ahead of a place -/
def putL (ts : List (List UInt8)) (i : Nat) (t : List UInt8) : List (List UInt8) := ts.take i ++ t :: ts.drop i
def putOf (M : List UInt8) (n : Int) (t : List UInt8) : Int × List UInt8 :=
  match methodOf M with
  | none => (1, [])
  | some (ts, g) => if n < 0 ∨ (ts.length : Int) < n then (2, []) else if isTy t = true then (if ts.length = 5 then (4, []) else (0, makeText (putL ts n.toNat t) g)) else (1, [])

theorem putL_len {ts : List (List UInt8)} {i : Nat} (t : List UInt8) (hi : i ≤ ts.length) : (putL ts i t).length = ts.length + 1 := ins_len t hi

set_option maxHeartbeats 1000000 in
theorem put1_bad (va : Value) (ts : List (List UInt8)) (n : Int) (b1 b2 : Nat) (w : World) (ha : Sl w va ts.length 1 (ts.map sv)) (hc1 : w.cell? ⟨b1, 0, none⟩ = some (.int .i64 n)) (hr : n < 0 ∨ (ts.length : Int) < n) :
    Calls Tryd.prog 51 #[va, .pointer (some ⟨b1, 0, none⟩), .pointer (some ⟨b2, 0, none⟩)] w fun e w' => e = .returned (.tuple #[.slice none 0 0, .iface 39 (.int .i64 2)]) ∧ w = w' := by
  obtain ⟨a, c, rfl⟩ := ha.val
  clear ha
  by_cases h0 : n < 0
  · clear hr
    go_enter Tryd.func51, Tryd.ntmps51
    go_wp2_with fail
    go_ret2
    exact ⟨rfl, rfl⟩
  · have h1 : (ts.length : Int) < n := by omega
    clear hr
    go_enter Tryd.func51, Tryd.ntmps51
    go_wp2_with fail
    go_ret2
    exact ⟨rfl, rfl⟩

set_option maxHeartbeats 1000000 in
theorem put1_type (va : Value) (ts : List (List UInt8)) (i : Nat) (t : ByteArray) (b1 b2 : Nat) (w : World) (ha : Sl w va ts.length 1 (ts.map sv)) (hc1 : w.cell? ⟨b1, 0, none⟩ = some (.int .i64 (i : Int))) (hc2 : w.cell? ⟨b2, 0, none⟩ = some (.string t)) (hi : i ≤ ts.length) (ht : t.size ≤ 9223372036854775807) (hT : isTy t.data.toList = false) :
    Calls Tryd.prog 51 #[va, .pointer (some ⟨b1, 0, none⟩), .pointer (some ⟨b2, 0, none⟩)] w fun e w' => e = .returned (.tuple #[.slice none 0 0, .iface 39 (.int .i64 1)]) ∧ Below w.heap.size w w' := by
  obtain ⟨a, c, rfl⟩ := ha.val
  have HT := hid hT
  clear ha hT
  have h0 : ¬ (i : Int) < 0 := by omega
  have h1 : ¬ (ts.length : Int) < (i : Int) := by omega
  go_enter Tryd.func51, Tryd.ntmps51
  go_wp2_with fail
  refine (tcheck_any t _ ht).mono ?_
  intro e w1 h1
  obtain ⟨rfl, hb1⟩ := checked_false h1 HT.out
  clear h1
  go_wp2_with fail
  go_ret2
  exact ⟨rfl, hb1⟩

set_option maxHeartbeats 1000000 in
theorem put1_ok (va : Value) (ts : List (List UInt8)) (i : Nat) (t : ByteArray) (b1 b2 : Nat) (w0 w : World) (ho : Out w0 w 9 1 va ts.length (ts.map sv)) (hc1 : w.cell? ⟨b1, 0, none⟩ = some (.int .i64 (i : Int))) (hc2 : w.cell? ⟨b2, 0, none⟩ = some (.string t)) (hi : i ≤ ts.length) (h5 : ts.length ≤ 5) (ht : t.size ≤ 9223372036854775807) (hT : isTy t.data.toList = true) :
    Calls Tryd.prog 51 #[va, .pointer (some ⟨b1, 0, none⟩), .pointer (some ⟨b2, 0, none⟩)] w fun e w' => ∃ v, e = .returned (.tuple #[v, .nilIface]) ∧ Sl w' v (ts.length + 1) 1 ((putL ts i t.data.toList).map sv) ∧ Below w0.heap.size w0 w' := by
  have HO := hid ho
  obtain ⟨a, c, rfl⟩ := ho.sl.val
  have HT := hid hT
  have HC1 := hid hc1; have HC2 := hid hc2
  clear ho hT
  have h0 : ¬ (i : Int) < 0 := by omega
  have h1 : ¬ (ts.length : Int) < (i : Int) := by omega
  go_enter Tryd.func51, Tryd.ntmps51
  go_wp2_with fail
  refine (tcheck_any t _ ht).mono ?_
  intro e w1 h1
  obtain ⟨rfl, hb1⟩ := checked_true h1 HT.out
  clear h1 hc1 hc2
  have hc1 : w1.cell? ⟨b1, 0, none⟩ = some (.int .i64 (i : Int)) := by rw [hb1.cell (World.block_lt_of_cell? w _ HC1.out)]; exact HC1.out
  have hc2 : w1.cell? ⟨b2, 0, none⟩ = some (.string t) := by rw [hb1.cell (World.block_lt_of_cell? w _ HC2.out)]; exact HC2.out
  have HI := hid (insert_any _ ts i t.data.toList w0 w1 (HO.out.later hb1) hi h5)
  go_wp2_with fail
  refine HI.out.mono ?_
  rintro e w2 ⟨v, rfl, hs, hb⟩
  go_wp2_with fail
  go_ret2
  exact ⟨_, rfl, hs, hb⟩

theorem fault_put {M g x : List UInt8} {ts : List (List UInt8)} {i : Nat} (h : methodOf M = some (ts, g)) (hx : isTy x = true) (hi : i ≤ ts.length) : (∀ y ∈ (putL ts i x).map bs, y.size ≤ 9223372036854775807) ∧ makeFault (putL ts i x) g = if ts.length = 5 then 4 else 0 := by
  obtain ⟨f1, _⟩ := make_method h
  obtain ⟨h5, hall, _, _, hg⟩ := text_small f1
  have hall2 : ∀ y ∈ putL ts i x, isTy y = true := fun y hy => by
    unfold putL at hy
    rw [List.mem_append, List.mem_cons] at hy
    rcases hy with h1 | h1 | h1
    · exact List.all_eq_true.1 hall y (List.mem_of_mem_take h1)
    · rw [h1]; exact hx
    · exact List.all_eq_true.1 hall y (List.mem_of_mem_drop h1)
  refine ⟨fun y hy => ?_, ?_⟩
  · obtain ⟨z, hz, rfl⟩ := List.mem_map.1 hy
    have := (ty_append (hall2 z hz) []).2.1
    rw [bs_size]; omega
  · unfold makeFault
    rw [putL_len x hi]
    by_cases h6 : ts.length = 5
    · rw [if_pos h6, if_pos (by omega)]
    · rw [if_neg h6, if_neg (by omega), if_pos ⟨List.all_eq_true.2 hall2, hg⟩]

set_option maxRecDepth 100000 in
set_option maxHeartbeats 2000000 in
theorem changed_put (M : ByteArray) (n : Int) (t : ByteArray) (b1 b2 : Nat) (w : World) (hM : M.size ≤ 10000000) (ht : t.size ≤ 9223372036854775807) (hc1 : w.cell? ⟨b1, 0, none⟩ = some (.int .i64 n)) (hc2 : w.cell? ⟨b2, 0, none⟩ = some (.string t)) :
    Calls Tryd.prog 50 #[.string M, .func (.func 51) #[] #[.pointer (some ⟨b1, 0, none⟩), .pointer (some ⟨b2, 0, none⟩)]] w (Told w (putOf M.data.toList n t.data.toList)) := by
  have HC1 := hid hc1; have HC2 := hid hc2
  clear hc1 hc2
  cases hm : methodOf M.data.toList with
  | none =>
    have HM := hid hm
    have HN : Hid (putOf M.data.toList n t.data.toList = (1, [])) := hid (by simp only [putOf, hm])
    clear hm
    go_enter Tryd.func50, Tryd.ntmps50
    go_wp2_with fail
    refine (method_any M _ hM).mono ?_
    intro e w1 h1
    obtain ⟨rfl, hb1⟩ := methodBy_none HM.out h1
    clear h1
    go_wp2_with fail
    go_ret2
    exact told_err HN.out (by decide) hb1
  | some r =>
    obtain ⟨ts, g⟩ := r
    have HM := hid hm
    obtain ⟨hn5, hg25, _⟩ := types_small hm
    by_cases hr : n < 0 ∨ (ts.length : Int) < n
    · have HN : Hid (putOf M.data.toList n t.data.toList = (2, [])) := hid (by simp only [putOf, hm, if_pos hr])
      have HR := hid hr
      clear hm hr
      go_enter Tryd.func50, Tryd.ntmps50
      go_wp2_with fail
      refine (method_any M _ hM).mono ?_
      intro e w1 h1
      obtain ⟨v, rfl, ho⟩ := methodBy_some HM.out h1
      clear h1
      have HS := hid ho.sl
      have hb1 := ho.below
      obtain ⟨a1, c1, rfl⟩ := HS.out.val
      clear ho
      have HD1 : Hid (w1.cell? ⟨b1, 0, none⟩ = some (.int .i64 n)) := hid (by rw [hb1.cell (World.block_lt_of_cell? w _ HC1.out)]; exact HC1.out)
      go_wp2_with fail
      refine (put1_bad _ ts n b1 b2 w1 HS.out HD1.out HR.out).mono ?_
      rintro e w2 ⟨rfl, rfl⟩
      go_wp2_with fail
      go_ret2
      exact told_err HN.out (by decide) hb1
    · obtain ⟨i, rfl⟩ : ∃ i : Nat, n = (i : Int) := ⟨n.toNat, by omega⟩
      have hi : i ≤ ts.length := by omega
      cases hT : isTy t.data.toList with
      | false =>
        have HN : Hid (putOf M.data.toList (i : Int) t.data.toList = (1, [])) := hid (by simp only [putOf, hm, if_neg hr, hT, Bool.false_eq_true, if_false])
        have HT := hid hT
        clear hm hr hT
        go_enter Tryd.func50, Tryd.ntmps50
        go_wp2_with fail
        refine (method_any M _ hM).mono ?_
        intro e w1 h1
        obtain ⟨v, rfl, ho⟩ := methodBy_some HM.out h1
        clear h1
        have HO := hid ho
        have hb1 := ho.below
        obtain ⟨a1, c1, rfl⟩ := ho.sl.val
        clear ho
        have HD1 : Hid (w1.cell? ⟨b1, 0, none⟩ = some (.int .i64 (i : Int))) := hid (by rw [hb1.cell (World.block_lt_of_cell? w _ HC1.out)]; exact HC1.out)
        have HD2 : Hid (w1.cell? ⟨b2, 0, none⟩ = some (.string t)) := hid (by rw [hb1.cell (World.block_lt_of_cell? w _ HC2.out)]; exact HC2.out)
        go_wp2_with fail
        refine (put1_type _ ts i t b1 b2 w1 HO.out.sl HD1.out HD2.out hi ht HT.out).mono ?_
        rintro e w2 ⟨rfl, hb2⟩
        have hb2 := hb1.trans (hb2.mono hb1.size)
        go_wp2_with fail
        go_ret2
        exact told_err HN.out (by decide) hb2
      | true =>
        have hN : putOf M.data.toList (i : Int) t.data.toList = if ts.length = 5 then (4, []) else (0, makeText (putL ts i t.data.toList) g) := by simp only [putOf, hm, if_neg hr, hT, if_true, Int.toNat_natCast]
        obtain ⟨hsm, hF⟩ := fault_put (g := g) hm hT hi
        have hel := putL_len t.data.toList hi
        have HSM := hid hsm; have HF := hid hF; have HN := hid hN
        have HEL := hid hel
        have HT := hid hT
        clear hm hr hT hF hsm hN hel
        go_enter Tryd.func50, Tryd.ntmps50
        go_wp2_with fail
        refine (method_any M _ hM).mono ?_
        intro e w1 h1
        obtain ⟨v, rfl, ho⟩ := methodBy_some HM.out h1
        clear h1
        have HO := hid ho
        have hb1 := ho.below
        obtain ⟨a1, c1, rfl⟩ := ho.sl.val
        clear ho
        have HD1 : Hid (w1.cell? ⟨b1, 0, none⟩ = some (.int .i64 (i : Int))) := hid (by rw [hb1.cell (World.block_lt_of_cell? w _ HC1.out)]; exact HC1.out)
        have HD2 : Hid (w1.cell? ⟨b2, 0, none⟩ = some (.string t)) := hid (by rw [hb1.cell (World.block_lt_of_cell? w _ HC2.out)]; exact HC2.out)
        go_wp2_with fail
        refine (put1_ok _ ts i t b1 b2 w w1 HO.out HD1.out HD2.out hi hn5 ht HT.out).mono ?_
        rintro e w2 ⟨v2, rfl, hs2, hb2⟩
        have HMK := hid (make_types v2 (putL ts i t.data.toList) g w2 (by rw [HEL.out]; exact hs2) HSM.out (by omega))
        obtain ⟨a2, c2, rfl⟩ := hs2.val
        clear hs2
        by_cases h5 : ts.length = 5
        · have HN2 : Hid (putOf M.data.toList (i : Int) t.data.toList = (4, [])) := hid (by rw [HN.out, if_pos h5])
          have HF2 : Hid (makeFault (putL ts i t.data.toList) g = 4) := hid (by rw [HF.out, if_pos h5])
          clear h5
          go_wp2_with fail
          refine HMK.out.mono ?_
          intro e w3 h3
          obtain ⟨rfl, hb3⟩ := makeBy_bad h3 HF2.out (by decide)
          clear h3
          go_wp2_with fail
          go_ret2
          exact told_err HN2.out (by decide) (hb2.trans (hb3.mono hb2.size))
        · have HN2 : Hid (putOf M.data.toList (i : Int) t.data.toList = (0, makeText (putL ts i t.data.toList) g)) := hid (by rw [HN.out, if_neg h5])
          have HF2 : Hid (makeFault (putL ts i t.data.toList) g = 0) := hid (by rw [HF.out, if_neg h5])
          clear h5
          go_wp2_with fail
          refine HMK.out.mono ?_
          intro e w3 h3
          obtain ⟨rfl, hb3⟩ := makeBy_good h3 HF2.out
          clear h3
          go_wp2_with fail
          go_ret2
          exact told_ok HN2.out (hb2.trans (hb3.mono hb2.size))

set_option maxHeartbeats 1000000 in
theorem put_any (M : ByteArray) (n : Int) (t : ByteArray) (w : World) (hM : M.size ≤ 10000000) (ht : t.size ≤ 9223372036854775807) :
    Calls Tryd.prog 32 #[.string M, .int .i64 n, .string t] w (Told w (putOf M.data.toList n t.data.toList)) := by
  have hbl := (ext_alloc w (.cells #[.int .i64 n] 3)).alloc (ext_alloc w (.cells #[.int .i64 n] 3)).size (.cells #[.string t] 9)
  have HBL := hid hbl
  have h1 : ((w.alloc (.cells #[.int .i64 n] 3)).alloc (.cells #[.string t] 9)).cell? ⟨w.heap.size + 1, 0, none⟩ = some (.string t) := by
    rw [show w.heap.size + 1 = (w.alloc (.cells #[.int .i64 n] 3)).heap.size from by simp, World.cell?_alloc_at _ _ _ _ rfl]; rfl
  have h2 : ((w.alloc (.cells #[.int .i64 n] 3)).alloc (.cells #[.string t] 9)).cell? ⟨w.heap.size, 0, none⟩ = some (.int .i64 n) := by
    rw [(ext_alloc (w.alloc (.cells #[.int .i64 n] 3)) (.cells #[.string t] 9)).cell (by simp), World.cell?_alloc_at _ _ _ _ rfl]; rfl
  have H1 := hid h1; have H2 := hid h2
  clear hbl h1 h2
  go_enter Tryd.func32, Tryd.ntmps32
  go_wp2_with fail
  refine (changed_put M n t _ _ _ hM ht H2.out H1.out).mono ?_
  rintro e w1 ⟨rfl, hb1⟩
  go_wp2_with fail
  go_ret2
  exact ⟨rfl, HBL.out.trans (hb1.mono HBL.out.size)⟩

end Go.Proofs.YtikkhjcocmihlaaDoor.mtypes
