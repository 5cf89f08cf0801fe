/- Handles: hand.filled, of two right method types. Condition: the types are not long. -/
import Derived.Test.YtikkhjcocmihlaaDoorHand2
import Derived.Test.YtikkhjcocmihlaaDoorMtype2
import Derived.Test.YtikkhjcocmihlaaDoorOwn
import Derived.Test.YtikkhjcocmihlaaDoorIns1
set_option linter.unusedSimpArgs false
set_option linter.unusedVariables false
namespace Go.Proofs.YtikkhjcocmihlaaDoor.hands
open Go.RowKit Go.Proofs.YtikkhjcocmihlaaDoor.lib Go.Proofs.YtikkhjcocmihlaaDoor.errs Go.Proofs.YtikkhjcocmihlaaDoor.names Go.Proofs.YtikkhjcocmihlaaDoor.descs Go.Proofs.YtikkhjcocmihlaaDoor.mtypes

/-- what is wrong with filling an arg of the first by the second; 0: nothing -/
def filledF (ts : List (List UInt8)) (us : List (List UInt8)) (q : List UInt8) (at_ many : Int) : Int :=
  if at_ < 0 ∨ (ts.length : Int) ≤ at_ then 2 else if (us.length : Int) ≠ many then 8 else if ts[at_.toNat]? ≠ some q then 7 else 0
def FillBy (w : World) (ts us : List (List UInt8)) (q : List UInt8) (at_ many : Int) (e : Ending) (w' : World) : Prop :=
  if filledF ts us q at_ many = 0 then ∃ v, e = .returned (.tuple #[v, .nilIface]) ∧ Out w w' 9 1 v us.length (us.map sv)
  else e = .returned (.tuple #[.slice none 0 0, .iface 39 (.int .i64 (filledF ts us q at_ many))]) ∧ Below w.heap.size w w'
theorem fill_bad {w w' : World} {ts us : List (List UInt8)} {q : List UInt8} {at_ many z : Int} (h : filledF ts us q at_ many = z) (hz : z ≠ 0) (hb : Below w.heap.size w w') : FillBy w ts us q at_ many (.returned (.tuple #[.slice none 0 0, .iface 39 (.int .i64 z)])) w' := by
  unfold FillBy; rw [h, if_neg hz]; exact ⟨rfl, hb⟩

set_option maxRecDepth 100000 in
set_option maxHeartbeats 4000000 in
theorem filled_any (m s : ByteArray) (at_ many : Int) (ts us : List (List UInt8)) (g q : List UInt8) (w : World) (hm : methodOf m.data.toList = some (ts, g)) (hs : methodOf s.data.toList = some (us, q)) (h1 : m.size ≤ 10000000) (h2 : s.size ≤ 10000000) :
    Calls Tryd.prog 34 #[.string m, .string s, .int .i64 at_, .int .i64 many] w (FillBy w ts us q at_ many) := by
  have HM1 := hid (method_any m w h1)
  have HM := hid hm; have HS := hid hs
  have HM2 := hid (fun u => method_any s u h2)
  clear hm hs h1 h2
  go_enter Tryd.func34, Tryd.ntmps34
  go_wp2_with fail
  refine HM1.out.mono ?_
  intro e w1 hh1
  obtain ⟨v1, rfl, ho1⟩ := methodBy_some HM.out hh1
  clear hh1
  have HB1 := hid ho1.below
  have HL1 := hid ho1.sl
  obtain ⟨a1, c1, hv1⟩ := ho1.sl.val
  subst hv1
  clear ho1
  by_cases hr : at_ < 0 ∨ (ts.length : Int) ≤ at_
  · have HF : Hid (filledF ts us q at_ many = 2) := hid (if_pos hr)
    rcases hr with hr | hr
    · go_wp2_with fail
      go_ret2
      exact fill_bad HF.out (by decide) HB1.out
    · by_cases hr2 : at_ < 0
      · go_wp2_with fail
        go_ret2
        exact fill_bad HF.out (by decide) HB1.out
      · go_wp2_with fail
        go_ret2
        exact fill_bad HF.out (by decide) HB1.out
  · have hr0 : ¬ at_ < 0 := fun h => hr (.inl h)
    have hr1 : ¬ (ts.length : Int) ≤ at_ := fun h => hr (.inr h)
    have HNR := hid hr
    obtain ⟨k, rfl⟩ : ∃ k : Nat, at_ = (k : Int) := ⟨at_.toNat, by omega⟩
    have hk : k < ts.length := by omega
    have hkl : (k : Int) < (ts.length : Int) := by omega
    have hk0 : (0 : Int) ≤ (k : Int) := by omega
    clear hr
    go_wp2_with fail
    refine (HM2.out _).mono ?_
    intro e w2 hh2
    obtain ⟨v2, rfl, ho2⟩ := methodBy_some HS.out hh2
    clear hh2
    have HO2 := hid (Out.since HB1.out ho2)
    have HL2 := hid (HL1.out.below ho2.below)
    obtain ⟨a2, c2, hv2⟩ := ho2.sl.val
    subst hv2
    clear ho2
    by_cases hn : (us.length : Int) = many
    · have hn1 : ((us.length : Int) != many) = false := by simpa using hn
      obtain ⟨b, off, hab, u0, hu0, hcell⟩ := Sl.at1 HL2.out hk
      subst hab
      have hu : u0 = .string (bs ts[k]) := by
        rw [List.getElem?_map, List.getElem?_eq_getElem hk] at hu0
        exact (Option.some.inj hu0).symm
      subst hu
      have HFE : Hid (filledF ts us q (k : Int) many = if ts[k] = q then 0 else 7) := hid (by
        unfold filledF
        rw [if_neg HNR.out, if_neg (by simpa using hn), Int.toNat_natCast, List.getElem?_eq_getElem hk]
        by_cases h : ts[k] = q
        · rw [if_pos h, if_neg (by simpa using h)]
        · rw [if_neg h, if_pos (by simpa using h)])
      by_cases hq : ts[k] = q
      · have HF : Hid (filledF ts us q (k : Int) many = 0) := hid (by rw [HFE.out, if_pos hq])
        have g1 : ((bs q).toList == (bs ts[k]).toList) = true := by rw [hq]; simp
        obtain ⟨Q, hQ⟩ : ∃ Q, bs q = Q := ⟨_, rfl⟩
        obtain ⟨R, hR⟩ : ∃ R, bs ts[k] = R := ⟨_, rfl⟩
        rw [hQ, hR] at g1
        rw [hR] at hcell
        simp only [hQ]
        clear hq hu0
        go_wp2_with fail
        go_ret2
        unfold FillBy
        rw [if_pos HF.out]
        exact ⟨_, rfl, HO2.out⟩
      · have HF : Hid (filledF ts us q (k : Int) many = 7) := hid (by rw [HFE.out, if_neg hq])
        have g1 : ((bs q).toList == (bs ts[k]).toList) = false := by
          rw [ByteArray.toList_eq, ByteArray.toList_eq, bs_data, bs_data]
          simpa using fun h => hq h.symm
        obtain ⟨Q, hQ⟩ : ∃ Q, bs q = Q := ⟨_, rfl⟩
        obtain ⟨R, hR⟩ : ∃ R, bs ts[k] = R := ⟨_, rfl⟩
        rw [hQ, hR] at g1
        rw [hR] at hcell
        simp only [hQ]
        clear hq hu0
        go_wp2_with fail
        go_ret2
        exact fill_bad HF.out (by decide) HO2.out.below
    · have HF : Hid (filledF ts us q (k : Int) many = 8) := hid (by unfold filledF; rw [if_neg HNR.out, if_pos hn])
      have hn1 : ((us.length : Int) != many) = true := by simpa using hn
      go_wp2_with fail
      go_ret2
      exact fill_bad HF.out (by decide) HO2.out.below
end Go.Proofs.YtikkhjcocmihlaaDoor.hands

/- Handles: how many subs a kind has; a leaf's type (plainly). No condition. -/
namespace Go.Proofs.YtikkhjcocmihlaaDoor.hands
open Go.RowKit Go.Proofs.YtikkhjcocmihlaaDoor.lib Go.Proofs.YtikkhjcocmihlaaDoor.errs Go.Proofs.YtikkhjcocmihlaaDoor.names Go.Proofs.YtikkhjcocmihlaaDoor.descs Go.Proofs.YtikkhjcocmihlaaDoor.ins

/-- how many subs a kind has -/
def subsN (k : Int) : Int := if k = 4 ∨ k = 6 then 1 else if k = 5 ∨ k = 7 then 2 else 0
/-- what is wrong with a leaf; 0: nothing -/
def leafF (k : Int) (t : List UInt8) (a : Int) : Int := if isWd t = false ∨ (k = 3 ∧ (a < 1 ∨ 12 < a)) then 1 else if k = 1 ∧ t = [73] ∧ ¬ (-2147483648 ≤ a ∧ a ≤ 2147483647) then 2 else 0
/-- a leaf's type -/
def leafT (k : Int) (t : List UInt8) (a : Int) : List UInt8 := if k = 1 then [40, 41] ++ t else if k = 2 ∨ a = 12 then [40] ++ t ++ [41] ++ t else [40] ++ t ++ (if 9 ≤ a ∧ a ≤ 11 then [73] else t) ++ [41] ++ t
def leafS (k : Int) (t : List UInt8) (a : Int) : List UInt8 := if leafF k t a = 0 then leafT k t a else []

end Go.Proofs.YtikkhjcocmihlaaDoor.hands
