/- Types as texts: the reference's MethodOf; two lists of texts. Condition: the text is not long. -/
import Derived.Test.YtloeaihbnnnncaaGreatDoorDesc3
namespace Go.Proofs.YtloeaihbnnnncaaGreatDoor.descs
open Go.RowKit Go.Proofs.YtloeaihbnnnncaaGreatDoor.lib Go.Proofs.YtloeaihbnnnncaaGreatDoor.errs Go.Proofs.YtloeaihbnnnncaaGreatDoor.names

/-- MethodOf's answer -/
def MethodSaid (w : World) (S : List UInt8) (e : Ending) (w' : World) : Prop :=
  match methodOf S with
  | some (ts, g) => ∃ v, e = .returned (.tuple #[v, .string (bs g), .bool true]) ∧ Out w w' 9 1 v ts.length (ts.map sv)
  | none => e = .returned (.tuple #[.slice none 0 0, .string { data := #[] }, .bool false]) ∧ Below w.heap.size w w'
theorem methodSaid_no {w w' : World} {S : List UInt8} (h : methodOf S = none) (hb : Below w.heap.size w w') : MethodSaid w S (.returned (.tuple #[.slice none 0 0, .string { data := #[] }, .bool false])) w' := by
  unfold MethodSaid; rw [h]; exact ⟨rfl, hb⟩
theorem methodSaid_yes {w w' : World} {S g : List UInt8} {ts : List (List UInt8)} {v : Value} (h : methodOf S = some (ts, g)) (ho : Out w w' 9 1 v ts.length (ts.map sv)) : MethodSaid w S (.returned (.tuple #[v, .string (bs g), .bool true])) w' := by
  unfold MethodSaid; rw [h]; exact ⟨v, rfl, ho⟩

theorem drop_extract (s : ByteArray) (k n : Nat) : (bs (s.data.toList.drop k)).extract 0 n = s.extract k (k + n) := by
  rw [extract_bs, extract_bs, bs_data, List.drop_zero]
  congr 1
  rw [List.drop_take]; congr 1; omega
theorem drop_rest (s : ByteArray) (k n : Nat) : (bs (s.data.toList.drop k)).extract n (bs (s.data.toList.drop k)).size = bs (s.data.toList.drop (k + n)) := by
  rw [extract_bs, bs_data, bs_size, List.take_length, List.drop_drop]

theorem MetRel.go {w wr w' : World} {l : List UInt8} {s : ByteArray} {k : Nat} {v v' : Value} {ts : List (List UInt8)} (h : MetRel w wr l (bs (s.data.toList.drop k)) v ts) (h1 : ¬ (s.data.toList.drop k).head? = some 41) (h2 : tyLen (s.data.toList.drop k) ≠ 0)
    (ho : Out w w' 9 1 v' (ts.length + 1) (ts.map sv ++ [.string (s.extract k (k + tyLen (s.data.toList.drop k)))])) : MetRel w w' l (bs (s.data.toList.drop (k + tyLen (s.data.toList.drop k)))) v' (ts ++ [(s.data.toList.drop k).take (tyLen (s.data.toList.drop k))]) := by
  have := h.step (w' := w') (v' := v') (by rw [bs_data]; exact h1) (by rw [bs_data]; exact h2) (by rw [bs_data, drop_extract]; exact ho)
  rw [bs_data, drop_rest] at this
  exact this

set_option maxRecDepth 100000 in
set_option maxHeartbeats 2000000 in
theorem methodOf_any (s : ByteArray) (w : World) (hs : s.size ≤ 10000000) : Calls Tryz.prog 85 #[.string s] w (MethodSaid w s.data.toList) := by
  have HL := hid (size_len s)
  by_cases h0 : s.size = 0
  · have HN : Hid (methodOf s.data.toList = none) := hid (by
      have : s.data.toList = [] := List.eq_nil_of_length_eq_zero (by rw [HL.out]; exact h0)
      rw [this]; rfl)
    have k0 : ((s.size : Int) == 0) = true := by simp [h0]
    clear h0
    go_enter Tryz.func85, Tryz.ntmps85
    go_wp2_with fail
    go_ret3
    exact methodSaid_no HN.out (Below.refl _ _)
  · have k0 : ((s.size : Int) == 0) = false := beq_eq_false_iff_ne.2 (by omega)
    have k1 : (0 : Int) < (s.size : Int) := by omega
    have k2 : 0 < s.size := by omega
    have hsp := drop_byte k2
    rw [List.drop_zero] at hsp
    by_cases h40 : s[0] = 40
    · obtain ⟨l, hl⟩ : ∃ l, s.data.toList.drop 1 = l := ⟨_, rfl⟩
      have HS : Hid (s.data.toList = 40 :: l) := hid (by rw [← hl, ← h40]; exact hsp)
      have u40 : (s[0].toNat : Int) = 40 := by rw [h40]; rfl
      have hll : l.length + 1 = s.size := by rw [← HL.out, HS.out]; rfl
      have HD := hid hl
      clear hsp h40 hl
      go_enter Tryz.func85, Tryz.ntmps85
      go_wp2_with fail
      go_loopw [5, 6] (fun v i wr => ∃ k ts, 1 ≤ k ∧ k ≤ s.size ∧ i = .int .i64 (k : Nat) ∧ Hid (MetRel w wr l (bs (s.data.toList.drop k)) v ts)) (fun _ i _ => s.size - (intOf i).toNat)
      case atStart => exact ⟨1, [], Nat.le_refl _, by omega, rfl, hid ⟨Out.nil _ _ _, by rw [bs_data, HD.out]; simp, by rw [bs_size, HD.out]; simp⟩⟩
      case round =>
        obtain ⟨k, ts, hk1, hk2, rfl, HR⟩ := hrel
        have hfew := HR.out.few
        rw [bs_size, List.length_drop, HL.out] at hfew
        by_cases hlt : k < s.size
        · have hk3 : (k : Int) < (s.size : Int) := by omega
          have hk4 : ¬ (s.size : Int) ≤ (k : Int) := by omega
          have hdb := drop_byte hlt
          by_cases h41 : s[k] = 41
          · have HE := met_end HS.out HR.out (by rw [bs_data, hdb, h41]; rfl)
            obtain ⟨a, c, rfl⟩ := HR.out.out.sl.val
            obtain ⟨G, hG⟩ : ∃ G, s.extract (k + 1) s.size = G := ⟨_, rfl⟩
            have hGd : G.data.toList = (s.data.toList.drop k).drop 1 := by rw [← hG, extract_bs, bs_data, ← HL.out, List.take_length, List.drop_drop]
            have hGs : G.size ≤ 10000000 := by rw [← hG, ByteArray.size_extract]; omega
            rw [bs_data, ← hGd] at HE
            have HE := hid HE
            have HG := hid hG
            have u41 : (s[k].toNat : Int) = 41 := by rw [h41]; rfl
            clear hdb h41 hG hGd
            by_cases h5 : ts.length ≤ 5
            · have k5 : ¬ (5 : Int) < (ts.length : Int) := by omega
              by_cases hV : G.data.toList = [86]
              · have g1 : G.toList = [86] := str_list.2 hV
                have HM : Hid (methodOf s.data.toList = some (ts, G.data.toList)) := hid (by rw [HE.out, if_pos ⟨h5, .inl hV⟩])
                clear hV h5
                have hGx := HG.out
                go_wp2_with fail
                go_ret3
                exact methodSaid_yes HM.out HR.out.out
              · have g1 : ¬ G.toList = [86] := fun h => hV (str_list.1 h)
                have g2 : (G.toList == [86]) = false := beq_eq_false_iff_ne.2 g1
                cases hT : isTy G.data.toList with
                | true =>
                  have HM : Hid (methodOf s.data.toList = some (ts, G.data.toList)) := hid (by rw [HE.out, if_pos ⟨h5, .inr hT⟩])
                  have HT := hid hT
                  clear hV h5 hT
                  have hGx := HG.out
                  go_wp2_with fail
                  refine (isType_any G _ (by omega)).mono ?_
                  rintro e w3 ⟨rfl, rfl⟩
                  rw [HT.out]
                  go_wp2_with fail
                  go_ret3
                  exact methodSaid_yes HM.out HR.out.out
                | false =>
                  have HM : Hid (methodOf s.data.toList = none) := hid (by rw [HE.out, if_neg]; rintro ⟨_, h | h⟩; exact hV h; rw [hT] at h; cases h)
                  have HT := hid hT
                  clear hV h5 hT
                  have hGx := HG.out
                  go_wp2_with fail
                  refine (isType_any G _ (by omega)).mono ?_
                  rintro e w3 ⟨rfl, rfl⟩
                  rw [HT.out]
                  go_wp2_with fail
                  go_ret3
                  exact methodSaid_no HM.out HR.out.out.below
            · have k5 : (5 : Int) < (ts.length : Int) := by omega
              have HM : Hid (methodOf s.data.toList = none) := hid (by rw [HE.out, if_neg]; rintro ⟨h, _⟩; exact h5 h)
              clear h5
              go_wp2_with fail
              go_ret3
              exact methodSaid_no HM.out HR.out.out.below
          · have u41 : ¬ (s[k].toNat : Int) = 41 := fun h => h41 (UInt8.toNat_inj.1 (by simpa using (by omega : s[k].toNat = 41)))
            have n41 : ((s[k].toNat : Int) == 41) = false := beq_eq_false_iff_ne.2 u41
            have h41' : ¬ (s.data.toList.drop k).head? = some 41 := by rw [hdb]; simpa using h41
            have hta := typeAt_any s k wr (by omega) (by omega)
            have HTA := hid hta
            by_cases hn : tyLen (s.data.toList.drop k) = 0
            · have HM := hid (met_stuck HS.out HR.out (by rw [bs_data]; exact h41') (by rw [bs_data]; exact hn))
              have HZ := hid (tyEnd_no (b := k) hn)
              clear hdb h41 h41' hta hn
              go_wp2_with fail
              refine HTA.out.mono ?_
              rintro e w1 ⟨rfl, rfl⟩
              rw [HZ.out]
              go_wp2_with fail
              go_ret3
              exact methodSaid_no HM.out HR.out.out.below
            · have hstep := fun (w' : World) (v' : Value) => MetRel.go (w' := w') (v' := v') HR.out h41' hn
              have HSTEP := hid hstep
              have hle := tyLen_le (s.data.toList.drop k)
              rw [List.length_drop, HL.out] at hle
              have HZ := hid (tyEnd_yes (b := k) hn rfl)
              have hn0 : 0 < tyLen (s.data.toList.drop k) := by omega
              clear hdb h41 h41' hta hn hstep
              have hout := HR.out.out
              generalize tyLen (s.data.toList.drop k) = n at hle hn0 HSTEP HTA HZ ⊢
              have z0 : ((k + n : Nat) : Int) ≠ 0 := by omega
              have z1 : (((k + n : Nat) : Int) == 0) = false := beq_eq_false_iff_ne.2 z0
              have z2 : (k : Int) ≤ ((k + n : Nat) : Int) := by omega
              have z3 : ((k + n : Nat) : Int) ≤ (s.size : Int) := by omega
              generalize hm : k + n = m at HSTEP HZ z0 z1 z2 z3
              go_wp2_with fail
              refine HTA.out.mono ?_
              rintro e w1 ⟨rfl, rfl⟩
              rw [HZ.out]
              go_wp2_with (at_builtin; go_loud (refine wpList_append_lit w _ _ rfl _ _ 24 rfl 9 (.string { data := #[] }) 1 16 _ Tryz.underlying24 infoStr rfl (by decide) _ _ _ hout rfl rfl rfl ?_ ?_ ?_ ?_))
              all_goals first | (intro v' w' hout' _hg) | omega | (simp [Value.oneCell']; done) | skip
              all_goals go_wp2
              all_goals go_roundw
              case rel => exact ⟨m, _, by omega, by omega, rfl, hid (HSTEP.out _ _ hout')⟩
              case measure => simp [intOf]; omega
        · obtain rfl : k = s.size := by omega
          have hnil : s.data.toList.drop s.size = [] := List.drop_eq_nil_of_le (by rw [HL.out]; exact Nat.le_refl _)
          have HM := hid (met_stuck HS.out HR.out (by rw [bs_data, hnil]; simp) (by rw [bs_data, hnil]; rfl))
          clear hnil
          obtain ⟨a, c, rfl⟩ := HR.out.out.sl.val
          go_wp2_with fail
          go_ret3
          exact methodSaid_no HM.out HR.out.out.below
    · have HN : Hid (methodOf s.data.toList = none) := hid (by
        rw [hsp]; simp only [methodOf]; rw [if_neg]; rintro ⟨h, _⟩; exact h40 h)
      have u40 : ¬ (s[0].toNat : Int) = 40 := fun h => h40 (UInt8.toNat_inj.1 (by simpa using (by omega : s[0].toNat = 40)))
      have n40 : ((s[0].toNat : Int) == 40) = false := beq_eq_false_iff_ne.2 u40
      clear hsp h40
      go_enter Tryz.func85, Tryz.ntmps85
      go_wp2_with fail
      go_ret3
      exact methodSaid_no HN.out (Below.refl _ _)

end Go.Proofs.YtloeaihbnnnncaaGreatDoor.descs
