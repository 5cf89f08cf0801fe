/- Types as texts: desc.Make and the reference's MethodText. No condition. -/
import Derived.Test.YtogpgfaojmmemaaDoorDesc8
namespace Go.Proofs.YtogpgfaojmmemaaDoor.descs
open Go.RowKit Go.Proofs.YtogpgfaojmmemaaDoor.lib Go.Proofs.YtogpgfaojmmemaaDoor.errs Go.Proofs.YtogpgfaojmmemaaDoor.names Go.Proofs.YtogpgfaojmmemaaDoor.texts

theorem glue (j g : ByteArray) (xs : List (List UInt8)) (hj : j.data.toList = xs.flatten) : ((({ data := #[40] } : ByteArray) ++ j ++ { data := #[41] }) ++ g).data.toList = makeText xs g.data.toList := by
  simp only [ByteArray.data_append, Array.toList_append, hj]
  unfold makeText
  simp

set_option maxRecDepth 100000 in
set_option maxHeartbeats 2000000 in
theorem make_any (va : Value) (xs : List ByteArray) (g : ByteArray) (w : World) (ha : Sl w va xs.length 1 (xs.map .string)) (hz : ∀ x ∈ xs, x.size ≤ 9223372036854775807) (hg : g.size ≤ 9223372036854775807) :
    Calls Tryd.prog 82 #[va, .string g] w (MakeBy w (raw xs) g.data.toList) := by
  obtain ⟨a, c, rfl⟩ := ha.val
  have HA := hid ha; have HZ := hid hz; clear ha hz
  by_cases h5 : 5 < xs.length
  · have k5 : (5 : Int) < (xs.length : Int) := by omega
    have HN := hid (fault_many (g := g.data.toList) h5)
    clear h5
    go_enter Tryd.func82, Tryd.ntmps82
    go_wp2_with fail
    go_ret2
    exact makeBy_no HN.out (by decide) (Below.refl _ _)
  · have k5 : ¬ (5 : Int) < (xs.length : Int) := by omega
    go_enter Tryd.func82, Tryd.ntmps82
    go_wp2_with fail
    go_loopw [15] (fun i wr => ∃ k : Nat, k ≤ xs.length ∧ i = .int .i64 k ∧ Hid (Below w.heap.size w wr) ∧ Hid ((raw (xs.take k)).all isTy = true)) (fun i _ => xs.length - (intOf i).toNat)
    case atStart => exact ⟨0, Nat.zero_le _, rfl, hid (Below.refl _ _), hid rfl⟩
    case round =>
      obtain ⟨k, hk, rfl, HR, HK⟩ := hrel
      by_cases hlt : k < xs.length
      · obtain ⟨bx, ox, hax, hcx⟩ := sl_strs (HA.out.below HR.out) hlt
        subst hax
        have hi : (0 : Int) ≤ (k : Int) := by omega
        have hl : (k : Int) < (xs.length : Int) := by omega
        have hxs := HZ.out xs[k] (List.getElem_mem hlt)
        cases ht : isTy xs[k].data.toList with
        | true =>
          have HS := hid (all_step HK.out hlt ht)
          generalize xs[k] = X at hcx hxs ht
          have HT := hid ht; clear ht
          go_wp2_with fail
          refine (tcheck_any X _ hxs).mono ?_
          intro e w1 h1
          obtain ⟨rfl, hb1⟩ := checked_true h1 HT.out
          clear h1
          go_wp2
          go_roundw
          case rel => exact ⟨k + 1, by omega, by go_num, hid (HR.out.trans (hb1.mono HR.out.size)), HS⟩
          case measure => simp [intOf]; omega
        | false =>
          have HN := hid (fault_bad (g := g.data.toList) h5 hlt ht)
          generalize xs[k] = X at hcx hxs ht
          have HT := hid ht; clear ht
          go_wp2_with fail
          refine (tcheck_any X _ hxs).mono ?_
          intro e w1 h1
          obtain ⟨rfl, hb1⟩ := checked_false h1 HT.out
          clear h1
          go_wp2
          go_ret2
          exact makeBy_no HN.out (by decide) (HR.out.trans (hb1.mono HR.out.size))
      · have hall : (raw xs).all isTy = true := by have := HK.out; rwa [List.take_of_length_le (by omega)] at this
        have hfl := flatten_small hall
        rw [raw_len] at hfl
        have HA2 := hid (HA.out.below HR.out)
        by_cases hV : g.data.toList = [86]
        · have g1 : g.toList = [86] := str_list.2 hV
          have HN := hid (fault_none h5 hall (.inl hV))
          have hgs : g.size = 1 := by rw [← size_len, hV]; rfl
          have hjs := bs_size (raw xs).flatten
          obtain ⟨J, hJ⟩ : ∃ J, bs (raw xs).flatten = J := ⟨_, rfl⟩
          have HJ := hid hJ
          rw [hJ] at hjs
          have hJs : J.size ≤ 125 := by rw [hjs]; omega
          have hJl : (raw xs).flatten.length ≤ 125 := by omega
          have HJl := hid hJl
          have HG := hid (glue J g (raw xs) (by rw [← hJ]; rfl))
          clear hV hall hJ hjs hfl hJl
          go_wp2_with fail
          refine (join_any _ xs _ HA2.out (by omega) HJl.out).mono ?_
          rintro e w1 ⟨rfl, hb1⟩
          rw [HJ.out]
          go_wp2_with fail
          go_ret2
          exact makeBy_yes HN.out HG.out (HR.out.trans (hb1.mono HR.out.size))
        · have g1 : ¬ g.toList = [86] := fun h => hV (str_list.1 h)
          have g2 : (g.toList == [86]) = false := beq_eq_false_iff_ne.2 g1
          cases hT : isTy g.data.toList with
          | true =>
            have HN := hid (fault_none h5 hall (.inr hT))
            have hgs := (ty_append hT []).2.1
            rw [size_len] at hgs
            have HT := hid hT
            have hjs := bs_size (raw xs).flatten
            obtain ⟨J, hJ⟩ : ∃ J, bs (raw xs).flatten = J := ⟨_, rfl⟩
            have HJ := hid hJ
            rw [hJ] at hjs
            have HG := hid (glue J g (raw xs) (by rw [← hJ]; rfl))
            have hJs : J.size ≤ 125 := by rw [hjs]; omega
            have hJl : (raw xs).flatten.length ≤ 125 := by omega
            have HJl := hid hJl
            clear hV hall hT hJ hjs hfl hJl
            go_wp2_with fail
            refine (tcheck_any g _ hg).mono ?_
            intro e w1 h1
            obtain ⟨rfl, hb1⟩ := checked_true h1 HT.out
            clear h1
            have hb1 := HR.out.trans (hb1.mono HR.out.size)
            have HA3 := hid (HA.out.below hb1)
            go_wp2_with fail
            refine (join_any _ xs _ HA3.out (by omega) HJl.out).mono ?_
            rintro e w2 ⟨rfl, hb2⟩
            rw [HJ.out]
            go_wp2_with fail
            go_ret2
            exact makeBy_yes HN.out HG.out (hb1.trans (hb2.mono hb1.size))
          | false =>
            have HN := hid (fault_gives h5 hV hT)
            have HT := hid hT
            clear hV hall hT
            go_wp2_with fail
            refine (tcheck_any g _ hg).mono ?_
            intro e w1 h1
            obtain ⟨rfl, hb1⟩ := checked_false h1 HT.out
            clear h1
            go_wp2_with fail
            go_ret2
            exact makeBy_no HN.out (by decide) (HR.out.trans (hb1.mono HR.out.size))

theorem raw_take {xs : List ByteArray} {k : Nat} (hk : k < xs.length) : (raw (xs.take (k + 1))).flatten = (raw (xs.take k)).flatten ++ xs[k].data.toList := by
  rw [List.take_add_one, List.getElem?_eq_getElem hk]
  unfold raw
  rw [List.map_append, List.flatten_append]
  simp only [Option.toList_some, List.map_cons, List.map_nil, List.flatten_cons, List.flatten_nil, List.append_nil]
theorem raw_take_le (xs : List ByteArray) (k : Nat) : (raw (xs.take k)).flatten.length ≤ (raw xs).flatten.length := by
  have : (raw xs).flatten = (raw (xs.take k)).flatten ++ (raw (xs.drop k)).flatten := by
    conv => lhs; rw [← List.take_append_drop k xs]
    unfold raw; rw [List.map_append, List.flatten_append]
  rw [this, List.length_append]; omega

set_option maxHeartbeats 1000000 in
theorem methodText_any (va : Value) (xs : List ByteArray) (g : ByteArray) (w : World) (ha : Sl w va xs.length 1 (xs.map .string)) (hn : xs.length ≤ 1000000000000) (hl : (raw xs).flatten.length ≤ 1000000000000) (hg : g.size ≤ 1000000000000) :
    Calls Tryd.prog 17 #[va, .string g] w fun e w' => e = .returned (.string (bs (makeText (raw xs) g.data.toList))) ∧ w = w' := by
  obtain ⟨a, c, rfl⟩ := ha.val
  have HA := hid ha; clear ha
  go_enter Tryd.func17, Tryd.ntmps17
  go_wp2_with fail
  go_loop [5, 6] (fun s i => ∃ (k : Nat) (J : ByteArray), k ≤ xs.length ∧ i = .int .i64 k ∧ s = .string J ∧ Hid (J.data.toList = 40 :: (raw (xs.take k)).flatten)) (fun _ i => xs.length - (intOf i).toNat)
  case atStart => exact ⟨0, _, Nat.zero_le _, rfl, rfl, hid rfl⟩
  case round =>
    obtain ⟨k, J, hk, rfl, rfl, HJ⟩ := hrel
    have hJs : J.size ≤ 1000000000001 := by
      rw [← size_len, HJ.out, List.length_cons]
      have := raw_take_le xs k
      omega
    by_cases hlt : k < xs.length
    · obtain ⟨bx, ox, hax, hcx⟩ := sl_strs HA.out hlt
      subst hax
      have hi : (0 : Int) ≤ (k : Int) := by omega
      have hl : (k : Int) < (xs.length : Int) := by omega
      have hxk : xs[k].size ≤ 1000000000000 := by
        have h1 := raw_take hlt
        have h2 := raw_take_le xs (k + 1)
        rw [h1, List.length_append, size_len] at h2
        omega
      have HS : Hid ((J ++ xs[k]).data.toList = 40 :: (raw (xs.take (k + 1))).flatten) := hid (by
        rw [ByteArray.data_append, Array.toList_append, HJ.out, raw_take hlt]; rfl)
      generalize xs[k] = X at hcx hxk HS
      go_wp2
      go_round
      case rel => exact ⟨k + 1, _, by omega, by go_num, rfl, HS⟩
      case measure => simp [intOf]; omega
    · have HG : Hid (((J ++ { data := #[41] }) ++ g) = bs (makeText (raw xs) g.data.toList)) := hid (by
        apply bs_of
        have := HJ.out
        rw [List.take_of_length_le (by omega)] at this
        rw [ByteArray.data_append, Array.toList_append, ByteArray.data_append, Array.toList_append, this]
        unfold makeText
        simp)
      go_wp2
      go_ret
      exact ⟨congrArg (fun x => Ending.returned (.string x)) HG.out, rfl⟩

theorem raw_sv (xs : List ByteArray) : (raw xs).map sv = xs.map .string := by unfold raw; rw [List.map_map]; rfl
theorem raw_bs (ts : List (List UInt8)) : raw (ts.map bs) = ts := by
  unfold raw; rw [List.map_map]
  conv => rhs; rw [← List.map_id ts]
  rfl
theorem fault_cases (xs : List (List UInt8)) (g : List UInt8) : makeFault xs g = 0 ∨ makeFault xs g = 1 ∨ makeFault xs g = 4 := by
  unfold makeFault; split
  · exact .inr (.inr rfl)
  · split
    · exact .inl rfl
    · exact .inr (.inl rfl)
theorem makeBy_bad {w w' : World} {xs : List (List UInt8)} {g : List UInt8} {e : Ending} {z : Int} (h : MakeBy w xs g e w') (hz : makeFault xs g = z) (h0 : z ≠ 0) : e = .returned (.tuple #[.string { data := #[] }, .iface 41 (.int .i64 z)]) ∧ Below w.heap.size w w' := by
  obtain ⟨h1, h2⟩ := h
  rw [hz, if_neg h0] at h1
  unfold errVal at h1
  rw [if_neg h0] at h1
  exact ⟨h1, h2⟩
theorem makeBy_good {w w' : World} {xs : List (List UInt8)} {g : List UInt8} {e : Ending} (h : MakeBy w xs g e w') (hz : makeFault xs g = 0) : e = .returned (.tuple #[.string (bs (makeText xs g)), .nilIface]) ∧ Below w.heap.size w w' := by
  obtain ⟨h1, h2⟩ := h
  rw [hz, if_pos rfl] at h1
  exact ⟨h1, h2⟩

end Go.Proofs.YtogpgfaojmmemaaDoor.descs
