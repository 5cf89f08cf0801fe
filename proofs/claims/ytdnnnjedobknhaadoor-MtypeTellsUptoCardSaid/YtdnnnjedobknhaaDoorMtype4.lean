/- The law MtypePermutes: its walk. Condition: the text is not long. -/
import Derived.Test.YtdnnnjedobknhaaDoorMtype3
import Derived.Test.YtdnnnjedobknhaaDoorApart
namespace Go.Proofs.YtdnnnjedobknhaaDoor.mtypes
open Go.RowKit Go.Proofs.YtdnnnjedobknhaaDoor.lib Go.Proofs.YtdnnnjedobknhaaDoor.errs Go.Proofs.YtdnnnjedobknhaaDoor.names Go.Proofs.YtdnnnjedobknhaaDoor.texts Go.Proofs.YtdnnnjedobknhaaDoor.descs

theorem permErr_zero {ms : List (List UInt8)} : ∀ {zs : List Int} {ts : List (List UInt8)}, (∀ k, k < zs.length → ∃ j : Nat, zs[k]? = some (j : Int) ∧ ∃ t, ts[k]? = some t ∧ ms[j]? = some t) → permErr ms zs ts = 0
  | [], ts, _ => by simp [permErr]
  | z :: zs, [], h => by
    obtain ⟨j, _, t, ht, _⟩ := h 0 (by simp)
    cases ht
  | z :: zs, t :: ts, h => by
    obtain ⟨j, hz, t', ht, hm⟩ := h 0 (by simp)
    cases hz
    cases ht
    have hj := (List.getElem?_eq_some_iff.1 hm).1
    rw [permErr, if_neg (by omega), if_pos (by rw [Int.toNat_natCast]; exact hm)]
    exact permErr_zero fun k hk => by
      obtain ⟨j, h1, t, h2, h3⟩ := h (k + 1) (by simpa using hk)
      exact ⟨j, by simpa using h1, t, by simpa using h2, h3⟩

def ownL (n : Nat) : List Int := (List.range n).map (fun i : Nat => (i : Int))
def backL (m n : Nat) : List Int := (List.range n).map (fun i : Nat => ((m - 1 - i : Nat) : Int))
def turnL (ts : List (List UInt8)) (n : Nat) : List (List UInt8) := (ts.reverse).take n

theorem ownL_step (n : Nat) : ownL (n + 1) = ownL n ++ [(n : Int)] := by unfold ownL; rw [List.range_succ, List.map_append]; rfl
theorem backL_step (m n : Nat) : backL m (n + 1) = backL m n ++ [((m - 1 - n : Nat) : Int)] := by unfold backL; rw [List.range_succ, List.map_append]; rfl
theorem turnL_step {ts : List (List UInt8)} {n : Nat} (h : n < ts.length) : turnL ts (n + 1) = turnL ts n ++ [ts[ts.length - 1 - n]] := by
  unfold turnL
  have h1 : n < ts.reverse.length := by rw [List.length_reverse]; exact h
  rw [List.take_add_one, List.getElem?_eq_getElem h1, List.getElem_reverse]; rfl
theorem ownL_len (n : Nat) : (ownL n).length = n := by unfold ownL; simp
theorem backL_len (m n : Nat) : (backL m n).length = n := by unfold backL; simp
theorem turnL_all (ts : List (List UInt8)) : turnL ts ts.length = ts.reverse := by unfold turnL; rw [← List.length_reverse, List.take_length]

theorem perm_own (ts : List (List UInt8)) : permErr ts (ownL ts.length) ts = 0 := permErr_zero fun k hk => by
  rw [ownL_len] at hk
  exact ⟨k, by simp [ownL, hk], ts[k], List.getElem?_eq_getElem hk, List.getElem?_eq_getElem hk⟩
theorem perm_back (ts : List (List UInt8)) : permErr ts.reverse (backL ts.length ts.length) ts = 0 := permErr_zero fun k hk => by
  rw [backL_len] at hk
  refine ⟨ts.length - 1 - k, by simp [backL, hk], ts[k], List.getElem?_eq_getElem hk, ?_⟩
  rw [List.getElem?_reverse (by omega), show ts.length - 1 - (ts.length - 1 - k) = k by omega]
  exact List.getElem?_eq_getElem hk
theorem perm_forth (ts : List (List UInt8)) : permErr ts (backL ts.length ts.length) ts.reverse = 0 := permErr_zero fun k hk => by
  rw [backL_len] at hk
  refine ⟨ts.length - 1 - k, by simp [backL, hk], ts[ts.length - 1 - k], ?_, List.getElem?_eq_getElem (by omega)⟩
  rw [List.getElem?_reverse (by omega)]
  exact List.getElem?_eq_getElem (by omega)

theorem fault_reverse {M g : List UInt8} {ts : List (List UInt8)} (h : methodOf M = some (ts, g)) : makeFault ts.reverse g = 0 := by
  obtain ⟨f1, _⟩ := make_method h
  obtain ⟨h5, hall, _, _, hg⟩ := text_small f1
  unfold makeFault
  rw [if_neg (by rw [List.length_reverse]; omega), if_pos ⟨by rw [List.all_reverse]; exact hall, hg⟩]

/-- the reference's MethodText of types that read so -/
theorem text_types (va : Value) (ts : List (List UInt8)) (g : List UInt8) (w : World) (ha : Sl w va ts.length 1 (ts.map sv)) (hf : makeFault ts g = 0) :
    Calls Tryd.prog 18 #[va, .string (bs g)] w fun e w' => e = .returned (.string (bs (makeText ts g))) ∧ w = w' := by
  obtain ⟨h5, hall, hg, ht, _⟩ := text_small hf
  have hfl := flatten_small hall
  have h := methodText_any va (ts.map bs) (bs g) w (by rw [List.length_map, ← sv_map]; exact ha) (by rw [List.length_map]; omega) (by rw [raw_bs]; omega) (by rw [bs_size]; omega)
  rw [raw_bs] at h
  exact h

theorem infoInt : (Tryd.prog.info? 3).map (fun i => (i.zero, i.size, i.bytes)) = some (some (.int .i64 0), 1, 8) := by kernel_rfl

/-- after k rounds -/
structure PRel (w0 w : World) (ts : List (List UInt8)) (k : Nat) (v1 v2 v3 : Value) : Prop where
  o1 : Out w0 w 3 1 v1 k ((ownL k).map (.int .i64))
  o2 : Out w0 w 3 1 v2 k ((backL ts.length k).map (.int .i64))
  o3 : Out w0 w 9 1 v3 k ((turnL ts k).map sv)
  a12 : Apart v1 v2
  a13 : Apart v1 v3
  a23 : Apart v2 v3

set_option maxRecDepth 100000 in
set_option maxHeartbeats 4000000 in
theorem permutes_any (s : ByteArray) (w : World) (hs : s.size ≤ 1048576) :
    Calls Tryd.prog 3 #[.string s] w fun e w' => e = .returned (.bool true) ∧ Below w.heap.size w w' := by
  have hs3 : s.size ≤ 10000000 := by omega
  cases hm : methodOf s.data.toList with
  | none =>
    have HM := hid hm
    clear hm
    go_enter Tryd.func3, Tryd.ntmps3
    go_wp2_with fail
    refine (dropped_any w).mono ?_
    rintro e w1 ⟨rfl, hb1⟩
    go_wp2_with fail
    refine (methodOf_any s _ hs3).mono ?_
    intro e w2 h2
    obtain ⟨rfl, hb2⟩ := methodSaid_none HM.out h2
    clear h2
    go_wp2_with fail
    go_ret
    exact ⟨rfl, hb1.trans (hb2.mono hb1.size)⟩
  | some r =>
    obtain ⟨ts, g⟩ := r
    have HM := hid hm
    obtain ⟨f1, hSt⟩ := make_method hm
    obtain ⟨hn5, _, _⟩ := types_small hm
    have fr := fault_reverse hm
    have HR0 := hid fr
    have mr := method_make fr
    obtain ⟨T, hT⟩ : ∃ T, bs (makeText ts.reverse g) = T := ⟨_, rfl⟩
    have hTd : T.data.toList = makeText ts.reverse g := by rw [← hT]; rfl
    have hTs : T.size ≤ 10000000 := by
      have := (text_small fr).2.2.2.1
      rw [← size_len, hTd]; omega
    have HSt : Hid (bs (makeText ts g) = s) := hid (by rw [hSt]; rfl)
    have P1 : Hid (permuteOf s.data.toList s.data.toList (ownL ts.length) = (0, makeText ts g)) := hid (by
      simp only [permuteOf, hm]; rw [if_pos (ownL_len _), if_pos (perm_own ts)])
    have P2 : Hid (permuteOf s.data.toList T.data.toList (backL ts.length ts.length) = (0, makeText ts.reverse g)) := hid (by
      simp only [permuteOf, hm, hTd, mr]; rw [if_pos (backL_len _ _), if_pos (perm_back ts)])
    have P3 : Hid (permuteOf T.data.toList s.data.toList (backL ts.length ts.length) = (0, makeText ts g)) := hid (by
      simp only [permuteOf, hm, hTd, mr]; rw [if_pos (by rw [backL_len, List.length_reverse]), if_pos (perm_forth ts)])
    have HT := hid hT
    clear hm f1 hSt fr mr hT hTd
    go_enter Tryd.func3, Tryd.ntmps3
    go_wp2_with fail
    refine (dropped_any w).mono ?_
    rintro e w1 ⟨rfl, hb1⟩
    go_wp2_with fail
    refine (methodOf_any s _ hs3).mono ?_
    intro e w2 h2
    obtain ⟨v2, rfl, ho2⟩ := methodSaid_some HM.out h2
    clear h2
    have HS2 := hid ho2.sl
    have hb2 := hb1.trans (ho2.below.mono hb1.size)
    obtain ⟨a2, c2, rfl⟩ := HS2.out.val
    clear ho2
    go_wp2_with fail
    go_loopw [7, 8, 9, 10] (fun v1 v2 v3 i wr => ∃ k : Nat, k ≤ ts.length ∧ i = .int .i64 k ∧ Hid (PRel w2 wr ts k v1 v2 v3)) (fun _ _ _ i _ => ts.length - (intOf i).toNat)
    case atStart => exact ⟨0, Nat.zero_le _, rfl, hid ⟨Out.nil _ _ _, Out.nil _ _ _, Out.nil _ _ _, apart_nil _ _ _, apart_nil _ _ _, apart_nil _ _ _⟩⟩
    case round =>
      obtain ⟨k, hk, rfl, HR⟩ := hrel
      by_cases hlt : k < ts.length
      · obtain ⟨q, hq⟩ : ∃ q : Nat, ts.length - 1 - k = q := ⟨_, rfl⟩
        have hq1 : q < ts.length := by omega
        have hqi : (ts.length : Int) - 1 - (k : Int) = (q : Int) := by omega
        have hq0 : (0 : Int) ≤ (q : Int) := by omega
        have hq2 : (q : Int) < (ts.length : Int) := by omega
        have hkl : (k : Int) < (ts.length : Int) := by omega
        have HQ := hid hq
        clear hq
        go_wp2_with (at_builtin; refine wpList_append_lit_at w2 wr _ rfl _ _ 26 rfl 3 (.int .i64 0) 1 8 1 Tryd.underlying26 infoInt rfl (by decide) _ _ _ HR.out.o1 rfl rfl rfl ?_ ?_ ?_ ?_)
        all_goals first | (intro v1' wa ho1 hg1 hat1) | omega | (simp [Value.oneCell']; done) | skip
        have O2 := hid (HR.out.o1.beside HR.out.o2 HR.out.a12 hg1)
        have O3 := hid (HR.out.o1.beside HR.out.o3 HR.out.a13 hg1)
        have A12 := hid (HR.out.a12.step HR.out.o2 hat1)
        have A13 := hid (HR.out.a13.step HR.out.o3 hat1)
        have O1 := hid ho1
        clear ho1 hg1 hat1
        go_wp2_with (at_builtin; refine wpList_append_lit_at w2 wa _ rfl _ _ 26 rfl 3 (.int .i64 0) 1 8 1 Tryd.underlying26 infoInt rfl (by decide) _ _ _ O2.out rfl rfl rfl ?_ ?_ ?_ ?_)
        all_goals first | (intro v2' wb ho2 hg2 hat2) | omega | (simp [Value.oneCell']; done) | skip
        have O1b := hid (O2.out.beside O1.out A12.out.symm hg2)
        have O3b := hid (O2.out.beside O3.out HR.out.a23 hg2)
        have A12b := hid (A12.out.symm.step O1.out hat2).symm
        have A23b := hid (HR.out.a23.step O3.out hat2)
        have O2b := hid ho2
        clear ho2 hg2 hat2 O1 O2 O3
        obtain ⟨bx, ox, hax, hcx⟩ := sl_sv (HS2.out.below O3b.out.below) hq1
        subst hax
        go_wp2_with (at_builtin; refine wpList_append_lit_at w2 wb _ rfl _ _ 23 rfl 9 (.string { data := #[] }) 1 16 1 Tryd.underlying23 infoStr rfl (by decide) _ _ _ O3b.out rfl rfl rfl ?_ ?_ ?_ ?_)
        all_goals first | (intro v3' wc ho3 hg3 hat3) | omega | (simp [Value.oneCell']; done) | skip
        have O1c := hid (O3b.out.beside O1b.out A13.out.symm hg3)
        have O2c := hid (O3b.out.beside O2b.out A23b.out.symm hg3)
        have A13c := hid (A13.out.symm.step O1b.out hat3).symm
        have A23c := hid (A23b.out.symm.step O2b.out hat3).symm
        have O3c := hid ho3
        clear ho3 hg3 hat3
        go_wp2
        go_roundw
        case rel =>
          refine ⟨k + 1, by omega, by go_num, hid ⟨?_, ?_, ?_, A12b.out, A13c.out, A23c.out⟩⟩
          · rw [ownL_step, List.map_append]; exact O1c.out
          · rw [backL_step, List.map_append, HQ.out]; exact O2c.out
          · rw [turnL_step hlt, List.map_append]; have := O3c.out; rw [show ts[ts.length - 1 - k] = ts[q] from by simp only [HQ.out]]; exact this
        case measure => simp [intOf]; omega
      · obtain rfl : k = ts.length := by omega
        have hb3 := HR.out.o1.below
        have L1 := hid HR.out.o1.sl; have L2 := hid HR.out.o2.sl; have L3 := hid HR.out.o3.sl
        obtain ⟨a1, c1, rfl⟩ := HR.out.o1.sl.val
        obtain ⟨a3, c3, rfl⟩ := HR.out.o2.sl.val
        obtain ⟨a4, c4, rfl⟩ := HR.out.o3.sl.val
        rw [turnL_all] at L3
        have hb4 := hb2.trans (hb3.mono hb2.size)
        have L1' : Hid (Sl wr (.slice a1 ts.length c1) (ownL ts.length).length 1 ((ownL ts.length).map (.int .i64))) := hid (by rw [ownL_len]; exact L1.out)
        have L2' : Hid (Sl wr (.slice a3 ts.length c3) (backL ts.length ts.length).length 1 ((backL ts.length ts.length).map (.int .i64))) := hid (by rw [backL_len]; exact L2.out)
        have L3' : Hid (Sl wr (.slice a4 ts.length c4) ts.reverse.length 1 (ts.reverse.map sv)) := hid (by rw [List.length_reverse]; exact L3.out)
        clear HR L1 L2 L3
        go_wp2_with fail
        refine (permute_any s s _ (ownL ts.length) _ hs3 hs3 L1'.out).mono ?_
        rintro e w3 ⟨rfl, hb5⟩
        rw [P1.out, show errVal (0, makeText ts g).1 = .nilIface from rfl, show bs (0, makeText ts g).2 = s from HSt.out]
        have M2 := hid (L2'.out.below hb5); have M3 := hid (L3'.out.below hb5)
        have hb5 := hb4.trans (hb5.mono hb4.size)
        go_wp2_with fail
        refine (text_types _ ts.reverse g _ M3.out HR0.out).mono ?_
        rintro e w4 ⟨rfl, rfl⟩
        rw [HT.out]
        go_wp2_with fail
        refine (permute_any s T _ (backL ts.length ts.length) _ hs3 hTs M2.out).mono ?_
        rintro e w4 ⟨rfl, hb6⟩
        rw [P2.out, show errVal (0, makeText ts.reverse g).1 = .nilIface from rfl]
        have N2 := hid (M2.out.below hb6); have N3 := hid (M3.out.below hb6)
        have hb6 := hb5.trans (hb6.mono hb5.size)
        rw [show bs (0, makeText ts.reverse g).2 = T from HT.out]
        go_wp2_with fail
        refine (permute_any T s _ (backL ts.length ts.length) _ hTs hs3 N2.out).mono ?_
        rintro e w5 ⟨rfl, hb7⟩
        rw [P3.out, show errVal (0, makeText ts g).1 = .nilIface from rfl, show bs (0, makeText ts g).2 = s from HSt.out]
        have R3 := hid (N3.out.below hb7)
        have hb7 := hb6.trans (hb7.mono hb6.size)
        go_wp2_with fail
        refine (text_types _ ts.reverse g _ R3.out HR0.out).mono ?_
        rintro e w6 ⟨rfl, rfl⟩
        rw [HT.out]
        go_wp2
        go_ret
        exact ⟨by simp, hb7⟩

end Go.Proofs.YtdnnnjedobknhaaDoor.mtypes
