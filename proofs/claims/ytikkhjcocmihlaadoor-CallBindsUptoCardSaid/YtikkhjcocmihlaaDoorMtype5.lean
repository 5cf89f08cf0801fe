/- Types of methods, changed: mtype.Change. Condition: the text is not long. -/
import Derived.Test.YtikkhjcocmihlaaDoorMtype3
import Derived.Test.YtikkhjcocmihlaaDoorOwn
namespace Go.Proofs.YtikkhjcocmihlaaDoor.mtypes
open Go.RowKit Go.Proofs.YtikkhjcocmihlaaDoor.lib Go.Proofs.YtikkhjcocmihlaaDoor.errs Go.Proofs.YtikkhjcocmihlaaDoor.names Go.Proofs.YtikkhjcocmihlaaDoor.texts Go.Proofs.YtikkhjcocmihlaaDoor.descs

def changeOf (M : List UInt8) (n : Int) (t : List UInt8) : Int × List UInt8 :=
  match methodOf M with
  | none => (1, [])
  | some (ts, g) => if n < 0 ∨ (ts.length : Int) ≤ n then (2, []) else if isTy t = true then (0, makeText (ts.set n.toNat t) g) else (1, [])

set_option maxHeartbeats 1000000 in
theorem change1_bad (va : Value) (ts : List (List UInt8)) (n : Int) (b1 b2 : Nat) (w : World) (ha : Sl w va ts.length 1 (ts.map sv)) (hc1 : w.cell? ⟨b1, 0, none⟩ = some (.int .i64 n)) (hr : n < 0 ∨ (ts.length : Int) ≤ n) :
    Calls Tryd.prog 56 #[va, .pointer (some ⟨b1, 0, none⟩), .pointer (some ⟨b2, 0, none⟩)] w fun e w' => e = .returned (.tuple #[.slice none 0 0, .iface 39 (.int .i64 2)]) ∧ w = w' := by
  obtain ⟨a, c, rfl⟩ := ha.val
  clear ha
  by_cases h0 : n < 0
  · clear hr
    go_enter Tryd.func56, Tryd.ntmps56
    go_wp2_with fail
    go_ret2
    exact ⟨rfl, rfl⟩
  · have h1 : (ts.length : Int) ≤ n := by omega
    clear hr
    go_enter Tryd.func56, Tryd.ntmps56
    go_wp2_with fail
    go_ret2
    exact ⟨rfl, rfl⟩

/-- the closure's answer where the place is there -/
def Changed (w0 : World) (ts : List (List UInt8)) (i : Nat) (t : List UInt8) (e : Ending) (w' : World) : Prop :=
  ∃ v, e = .returned (.tuple #[v, if isTy t = true then .nilIface else .iface 39 (.int .i64 1)]) ∧ Out w0 w' 9 1 v ts.length ((ts.set i t).map sv)
theorem changed_yes {w0 w' : World} {ts : List (List UInt8)} {i : Nat} {t : List UInt8} {v : Value} (h : isTy t = true) (ho : Out w0 w' 9 1 v ts.length ((ts.set i t).map sv)) : Changed w0 ts i t (.returned (.tuple #[v, .nilIface])) w' := ⟨v, by rw [if_pos h], ho⟩
theorem changed_no {w0 w' : World} {ts : List (List UInt8)} {i : Nat} {t : List UInt8} {v : Value} (h : isTy t = false) (ho : Out w0 w' 9 1 v ts.length ((ts.set i t).map sv)) : Changed w0 ts i t (.returned (.tuple #[v, .iface 39 (.int .i64 1)])) w' := ⟨v, by rw [if_neg (by rw [h]; decide)], ho⟩

set_option maxHeartbeats 1000000 in
theorem change1_ok (va : Value) (ts : List (List UInt8)) (i : Nat) (t : ByteArray) (b1 b2 : Nat) (w0 w : World) (ho : Out w0 w 9 1 va ts.length (ts.map sv)) (hw : b2 < w0.heap.size) (hc1 : w.cell? ⟨b1, 0, none⟩ = some (.int .i64 (i : Int))) (hc2 : w.cell? ⟨b2, 0, none⟩ = some (.string t)) (hi : i < ts.length) (ht : t.size ≤ 9223372036854775807) :
    Calls Tryd.prog 56 #[va, .pointer (some ⟨b1, 0, none⟩), .pointer (some ⟨b2, 0, none⟩)] w (Changed w0 ts i t.data.toList) := by
  obtain ⟨g, cap, u, rfl, hg, hcu, hfz, hset⟩ := ho.store hi
  have hset := hset (.string t)
  have hms : (ts.map sv).set i (.string t) = (ts.set i t.data.toList).map sv := by rw [List.map_set]; rfl
  rw [hms] at hset
  have HO := hid hset
  have hc2' : (w.setCell ⟨g, i, none⟩ (.string t)).cell? ⟨b2, 0, none⟩ = some (.string t) := by
    rw [World.cell?_setCell_other _ _ _ _ (fun e => by have := congrArg Addr.block e; simp only at this; omega)]
    exact hc2
  have h0 : ¬ (i : Int) < 0 := by omega
  have h1 : ¬ (ts.length : Int) ≤ (i : Int) := by omega
  have h2 : (i : Int) < (ts.length : Int) := by omega
  clear ho hms hset
  cases hT : isTy t.data.toList with
  | true =>
    have HT := hid hT
    clear hT
    go_enter Tryd.func56, Tryd.ntmps56
    go_wp2_with fail
    refine (tcheck_any t _ ht).mono ?_
    intro e w1 h1
    obtain ⟨rfl, hb1⟩ := checked_true h1 HT.out
    clear h1
    go_wp2_with fail
    go_ret2
    exact changed_yes HT.out (HO.out.later hb1)
  | false =>
    have HT := hid hT
    clear hT
    go_enter Tryd.func56, Tryd.ntmps56
    go_wp2_with fail
    refine (tcheck_any t _ ht).mono ?_
    intro e w1 h1
    obtain ⟨rfl, hb1⟩ := checked_false h1 HT.out
    clear h1
    go_wp2_with fail
    go_ret2
    exact changed_no HT.out (HO.out.later hb1)

theorem fault_set {M g x : List UInt8} {ts : List (List UInt8)} {i : Nat} (h : methodOf M = some (ts, g)) (hx : isTy x = true) : makeFault (ts.set i x) g = 0 ∧ (∀ y ∈ (ts.set i x).map bs, y.size ≤ 9223372036854775807) := by
  obtain ⟨f1, _⟩ := make_method h
  obtain ⟨h5, hall, _, _, hg⟩ := text_small f1
  have hall2 : ∀ y ∈ ts.set i x, isTy y = true := fun y hy => by
    rcases List.mem_or_eq_of_mem_set hy with h1 | h1
    · exact List.all_eq_true.1 hall y h1
    · rw [h1]; exact hx
  refine ⟨?_, fun y hy => ?_⟩
  · unfold makeFault
    rw [if_neg (by rw [List.length_set]; omega), if_pos ⟨List.all_eq_true.2 hall2, hg⟩]
  · obtain ⟨z, hz, rfl⟩ := List.mem_map.1 hy
    have := (ty_append (hall2 z hz) []).2.1
    rw [bs_size]; omega

set_option maxRecDepth 100000 in
set_option maxHeartbeats 2000000 in
theorem changed_change (M : ByteArray) (n : Int) (t : ByteArray) (b1 b2 : Nat) (w : World) (hM : M.size ≤ 10000000) (ht : t.size ≤ 9223372036854775807) (hc1 : w.cell? ⟨b1, 0, none⟩ = some (.int .i64 n)) (hc2 : w.cell? ⟨b2, 0, none⟩ = some (.string t)) :
    Calls Tryd.prog 50 #[.string M, .func (.func 56) #[] #[.pointer (some ⟨b1, 0, none⟩), .pointer (some ⟨b2, 0, none⟩)]] w (Told w (changeOf M.data.toList n t.data.toList)) := by
  have HC1 := hid hc1; have HC2 := hid hc2
  clear hc1 hc2
  cases hm : methodOf M.data.toList with
  | none =>
    have HM := hid hm
    have HN : Hid (changeOf M.data.toList n t.data.toList = (1, [])) := hid (by simp only [changeOf, hm])
    clear hm
    go_enter Tryd.func50, Tryd.ntmps50
    go_wp2_with fail
    refine (method_any M _ hM).mono ?_
    intro e w1 h1
    obtain ⟨rfl, hb1⟩ := methodBy_none HM.out h1
    clear h1
    go_wp2_with fail
    go_ret2
    exact told_err HN.out (by decide) hb1
  | some r =>
    obtain ⟨ts, g⟩ := r
    have HM := hid hm
    obtain ⟨hn5, hg25, _⟩ := types_small hm
    by_cases hr : n < 0 ∨ (ts.length : Int) ≤ n
    · have HN : Hid (changeOf M.data.toList n t.data.toList = (2, [])) := hid (by simp only [changeOf, hm, if_pos hr])
      have HR := hid hr
      clear hm hr
      go_enter Tryd.func50, Tryd.ntmps50
      go_wp2_with fail
      refine (method_any M _ hM).mono ?_
      intro e w1 h1
      obtain ⟨v, rfl, ho⟩ := methodBy_some HM.out h1
      clear h1
      have HS := hid ho.sl
      have hb1 := ho.below
      obtain ⟨a1, c1, rfl⟩ := HS.out.val
      clear ho
      have HD1 : Hid (w1.cell? ⟨b1, 0, none⟩ = some (.int .i64 n)) := hid (by rw [hb1.cell (World.block_lt_of_cell? w _ HC1.out)]; exact HC1.out)
      go_wp2_with fail
      refine (change1_bad _ ts n b1 b2 w1 HS.out HD1.out HR.out).mono ?_
      rintro e w2 ⟨rfl, rfl⟩
      go_wp2_with fail
      go_ret2
      exact told_err HN.out (by decide) hb1
    · obtain ⟨i, rfl⟩ : ∃ i : Nat, n = (i : Int) := ⟨n.toNat, by omega⟩
      have hi : i < ts.length := by omega
      cases hT : isTy t.data.toList with
      | false =>
        have HN : Hid (changeOf M.data.toList (i : Int) t.data.toList = (1, [])) := hid (by simp only [changeOf, hm, if_neg hr, hT, Bool.false_eq_true, if_false])
        have HT := hid hT
        clear hm hr hT
        go_enter Tryd.func50, Tryd.ntmps50
        go_wp2_with fail
        refine (method_any M _ hM).mono ?_
        intro e w1 h1
        obtain ⟨v, rfl, ho⟩ := methodBy_some HM.out h1
        clear h1
        have HO := hid ho
        have hb1 := ho.below
        obtain ⟨a1, c1, rfl⟩ := ho.sl.val
        clear ho
        have HD1 : Hid (w1.cell? ⟨b1, 0, none⟩ = some (.int .i64 (i : Int))) := hid (by rw [hb1.cell (World.block_lt_of_cell? w _ HC1.out)]; exact HC1.out)
        have HD2 : Hid (w1.cell? ⟨b2, 0, none⟩ = some (.string t)) := hid (by rw [hb1.cell (World.block_lt_of_cell? w _ HC2.out)]; exact HC2.out)
        go_wp2_with fail
        refine (change1_ok _ ts i t b1 b2 w w1 HO.out (World.block_lt_of_cell? w _ HC2.out) HD1.out HD2.out hi ht).mono ?_
        rintro e w2 ⟨v2, rfl, ho2⟩
        have hb2 := ho2.below
        clear ho2
        rw [if_neg (by rw [HT.out]; decide)]
        go_wp2_with fail
        go_ret2
        exact told_err HN.out (by decide) hb2
      | true =>
        have HN : Hid (changeOf M.data.toList (i : Int) t.data.toList = (0, makeText (ts.set i t.data.toList) g)) := hid (by simp only [changeOf, hm, if_neg hr, hT, if_true, Int.toNat_natCast])
        obtain ⟨hF, hsm⟩ := fault_set (i := i) hm hT
        have HF := hid hF; have HSM := hid hsm
        have HT := hid hT
        clear hm hr hT hF hsm
        go_enter Tryd.func50, Tryd.ntmps50
        go_wp2_with fail
        refine (method_any M _ hM).mono ?_
        intro e w1 h1
        obtain ⟨v, rfl, ho⟩ := methodBy_some HM.out h1
        clear h1
        have HO := hid ho
        have hb1 := ho.below
        obtain ⟨a1, c1, rfl⟩ := ho.sl.val
        clear ho
        have HD1 : Hid (w1.cell? ⟨b1, 0, none⟩ = some (.int .i64 (i : Int))) := hid (by rw [hb1.cell (World.block_lt_of_cell? w _ HC1.out)]; exact HC1.out)
        have HD2 : Hid (w1.cell? ⟨b2, 0, none⟩ = some (.string t)) := hid (by rw [hb1.cell (World.block_lt_of_cell? w _ HC2.out)]; exact HC2.out)
        go_wp2_with fail
        refine (change1_ok _ ts i t b1 b2 w w1 HO.out (World.block_lt_of_cell? w _ HC2.out) HD1.out HD2.out hi ht).mono ?_
        rintro e w2 ⟨v2, rfl, ho2⟩
        rw [if_pos HT.out]
        have hb2 := ho2.below
        have hel : (ts.set i t.data.toList).length = ts.length := List.length_set
        have HMK := hid (make_types v2 (ts.set i t.data.toList) g w2 (by rw [hel]; exact ho2.sl) HSM.out (by omega))
        obtain ⟨a2, c2, rfl⟩ := ho2.sl.val
        clear ho2 hel
        go_wp2_with fail
        refine HMK.out.mono ?_
        intro e w3 h3
        obtain ⟨rfl, hb3⟩ := makeBy_good h3 HF.out
        clear h3
        go_wp2_with fail
        go_ret2
        exact told_ok HN.out (hb2.trans (hb3.mono hb2.size))

set_option maxHeartbeats 1000000 in
theorem change_any (M : ByteArray) (n : Int) (t : ByteArray) (w : World) (hM : M.size ≤ 10000000) (ht : t.size ≤ 9223372036854775807) :
    Calls Tryd.prog 36 #[.string M, .int .i64 n, .string t] w (Told w (changeOf M.data.toList n t.data.toList)) := by
  have hbl := (ext_alloc w (.cells #[.int .i64 n] 3)).alloc (ext_alloc w (.cells #[.int .i64 n] 3)).size (.cells #[.string t] 9)
  have HBL := hid hbl
  have h1 : ((w.alloc (.cells #[.int .i64 n] 3)).alloc (.cells #[.string t] 9)).cell? ⟨w.heap.size + 1, 0, none⟩ = some (.string t) := by
    rw [show w.heap.size + 1 = (w.alloc (.cells #[.int .i64 n] 3)).heap.size from by simp, World.cell?_alloc_at _ _ _ _ rfl]; rfl
  have h2 : ((w.alloc (.cells #[.int .i64 n] 3)).alloc (.cells #[.string t] 9)).cell? ⟨w.heap.size, 0, none⟩ = some (.int .i64 n) := by
    rw [(ext_alloc (w.alloc (.cells #[.int .i64 n] 3)) (.cells #[.string t] 9)).cell (by simp), World.cell?_alloc_at _ _ _ _ rfl]; rfl
  have H1 := hid h1; have H2 := hid h2
  clear hbl h1 h2
  go_enter Tryd.func36, Tryd.ntmps36
  go_wp2_with fail
  refine (changed_change M n t _ _ _ hM ht H2.out H1.out).mono ?_
  rintro e w1 ⟨rfl, hb1⟩
  go_wp2_with fail
  go_ret2
  exact ⟨rfl, HBL.out.trans (hb1.mono HBL.out.size)⟩

end Go.Proofs.YtikkhjcocmihlaaDoor.mtypes
