/- Types of methods, changed: the reference's without, DropType. Condition: the text is not long. -/
import Derived.Test.YtjkmaioidekjcaaDoorMtype7
import Derived.Test.YtjkmaioidekjcaaDoorSrc
import Derived.Test.YtjkmaioidekjcaaDoorMtypeP
namespace Go.Proofs.YtjkmaioidekjcaaDoor.mtypes
open Go.RowKit Go.Proofs.YtjkmaioidekjcaaDoor.lib Go.Proofs.YtjkmaioidekjcaaDoor.errs Go.Proofs.YtjkmaioidekjcaaDoor.names Go.Proofs.YtjkmaioidekjcaaDoor.texts Go.Proofs.YtjkmaioidekjcaaDoor.descs

theorem one_sv (ts : List (List UInt8)) : ∀ u ∈ ts.map sv, u.oneCell' = true := fun u hu => by
  obtain ⟨t, _, rfl⟩ := List.mem_map.1 hu
  rfl
theorem erase_cells (ts : List (List UInt8)) (i : Nat) : (ts.map sv).take i ++ (ts.map sv).drop (i + 1) = (ts.eraseIdx i).map sv := by
  rw [← List.map_take, ← List.map_drop, ← List.map_append, List.eraseIdx_eq_take_drop_succ]

set_option maxRecDepth 100000 in
set_option maxHeartbeats 1000000 in
theorem without_any (va : Value) (ts : List (List UInt8)) (i : Nat) (w : World) (ha : Sl w va ts.length 1 (ts.map sv)) (hi : i < ts.length) (h5 : ts.length ≤ 5) :
    Calls Tryd.prog 78 #[va, .int .i64 (i : Int)] w fun e w' => ∃ v, e = .returned v ∧ Sl w' v (ts.eraseIdx i).length 1 ((ts.eraseIdx i).map sv) ∧ Below w.heap.size w w' := by
  obtain ⟨a, c, rfl⟩ := ha.val
  obtain ⟨b, off, rfl, _⟩ := sl_sv ha hi
  obtain ⟨_, hcap⟩ := ha.cap
  have hF := ha.take i (by omega)
  have hB := ha.drop (i + 1) (by omega)
  rw [Nat.mul_one] at hF hB
  have hEl : (ts.eraseIdx i).length = i + (ts.length - (i + 1)) := by rw [List.length_eraseIdx_of_lt hi]; omega
  have HEC := hid (erase_cells ts i)
  have HEL := hid hEl
  have O1 := hid (fun u hu => one_sv ts u (List.mem_of_mem_take (i := i) hu))
  have O2 := hid (fun u hu => one_sv ts u (List.mem_of_mem_drop (i := i + 1) hu))
  have hM := Out.made w 9 1
  have HM := hid hM
  have k2 : (0 : Int) ≤ (i : Int) := by omega
  have k3 : (i : Int) ≤ (c : Int) := by omega
  have k4 : (i : Int) + 1 ≤ (ts.length : Int) := by omega
  have k5 : (0 : Int) ≤ (i : Int) + 1 := by omega
  have k7 : ((i : Int) + 1).toNat = i + 1 := by omega
  have k8 : IntKind.i64.wrap ((i : Int) + 1) = (i : Int) + 1 := by rw [IntKind.wrap_i64]; omega
  have k6 : (ts.length : Int) ≤ (c : Int) := by omega
  obtain ⟨v2, hv2, hB2⟩ : ∃ v2, Value.slice (if c = i + 1 then some ⟨b, off, none⟩ else some ⟨b, off + (i + 1), none⟩) (ts.length - (i + 1)) (c - (i + 1)) = v2 ∧ Sl w v2 (ts.length - (i + 1)) 1 ((ts.map sv).drop (i + 1)) := ⟨_, rfl, by
    by_cases h : c = i + 1
    · rw [if_pos h] at hB ⊢; exact hB
    · rw [if_neg h] at hB ⊢; simpa [Addr.add_lit] using hB⟩
  have HF := hid hF; have HB := hid hB2
  have HMD := hid hM.drew
  have HFD := hid (hF.below hM.drew.below)
  clear ha hF hB hB2 hM hEl
  go_enter Tryd.func78, Tryd.ntmps78
  go_wp2_with fail
  go_region_law (first | refine step_append_src w _ rfl _ _ 40 rfl 9 (.string { data := #[] }) 1 16 i Tryd.underlying40 infoStr rfl (by decide) _ _ _ HMD.out rfl _ _ HFD.out rfl O1.out (by omega) (by omega) (fun v' w' ho hg => ?_) | refine step_append_src w _ rfl _ _ 40 rfl 9 (.string { data := #[] }) 1 16 (ts.length - (i + 1)) Tryd.underlying40 infoStr rfl (by decide) _ _ _ ho rfl _ _ (HB.out.below ho.below) rfl O2.out (by omega) (by omega) (fun v'' w'' ho2 hg2 => ?_))
  have HO := hid (show Out w w'' 9 1 v'' (ts.eraseIdx i).length ((ts.eraseIdx i).map sv) from by rw [← HEC.out, HEL.out]; simpa using ho2)
  clear ho ho2 hg hg2
  go_wp2
  go_ret
  exact ⟨_, rfl, HO.out.sl, HO.out.below⟩

/-- what the reference's functions answer: a text, and a code -/
def Said (w : World) (r : Int × List UInt8) (e : Ending) (w' : World) : Prop := e = .returned (.tuple #[.string (bs r.2), .int .i64 r.1]) ∧ Below w.heap.size w w'
theorem said_of {w w' : World} {r : Int × List UInt8} {z : Int} {l : List UInt8} (h : r = (z, l)) (hb : Below w.heap.size w w') : Said w r (.returned (.tuple #[.string (bs l), .int .i64 z])) w' := by
  subst h; exact ⟨rfl, hb⟩

set_option maxRecDepth 100000 in
set_option maxHeartbeats 2000000 in
theorem dropType_any (M : ByteArray) (n : Int) (w : World) (hM : M.size ≤ 10000000) :
    Calls Tryd.prog 48 #[.string M, .int .i64 n] w (Said w (dropOf M.data.toList n)) := by
  cases hm : methodOf M.data.toList with
  | none =>
    have HM := hid hm
    have HN : Hid (dropOf M.data.toList n = (1, [])) := hid (by simp only [dropOf, hm])
    clear hm
    go_enter Tryd.func48, Tryd.ntmps48
    go_wp2_with fail
    refine (methodOf_any M _ hM).mono ?_
    intro e w1 h1
    obtain ⟨rfl, hb1⟩ := methodSaid_none HM.out h1
    clear h1
    go_wp2
    go_ret2
    exact said_of HN.out hb1
  | some r =>
    obtain ⟨ts, g⟩ := r
    have HM := hid hm
    obtain ⟨hn5, _, _⟩ := types_small hm
    by_cases hr : n < 0 ∨ (ts.length : Int) ≤ n
    · have HN : Hid (dropOf M.data.toList n = (2, [])) := hid (by simp only [dropOf, hm, if_pos hr])
      have HR := hid hr
      clear hm hr
      go_enter Tryd.func48, Tryd.ntmps48
      go_wp2_with fail
      refine (methodOf_any M _ hM).mono ?_
      intro e w1 h1
      obtain ⟨v, rfl, ho⟩ := methodSaid_some HM.out h1
      have hb1 := ho.below
      obtain ⟨a1, c1, rfl⟩ := ho.sl.val
      clear h1 ho
      by_cases hlt : n < 0
      · go_wp2
        go_ret2
        exact said_of HN.out hb1
      · have hge : (ts.length : Int) ≤ n := HR.out.elim (fun h => absurd h hlt) id
        go_wp2
        go_ret2
        exact said_of HN.out hb1
    · obtain ⟨i, rfl⟩ : ∃ i : Nat, n = (i : Int) := ⟨n.toNat, by omega⟩
      have hi : i < ts.length := by omega
      have HN : Hid (dropOf M.data.toList (i : Int) = (0, makeText (ts.eraseIdx i) g)) := hid (by simp only [dropOf, hm, if_neg hr, Int.toNat_natCast])
      have HF := hid (fault_erase (i := i) hm).1
      have k0 : ¬ (i : Int) < 0 := by omega
      have k1 : ¬ (ts.length : Int) ≤ (i : Int) := by omega
      clear hm hr
      go_enter Tryd.func48, Tryd.ntmps48
      go_wp2_with fail
      refine (methodOf_any M _ hM).mono ?_
      intro e w1 h1
      obtain ⟨v, rfl, ho⟩ := methodSaid_some HM.out h1
      have HS := hid ho.sl
      have HB1 := hid ho.below
      obtain ⟨a1, c1, rfl⟩ := ho.sl.val
      clear h1 ho
      go_wp2_with fail
      refine (without_any _ ts i _ HS.out hi hn5).mono ?_
      rintro e w2 ⟨v2, rfl, hs2, hb2⟩
      have HS2 := hid hs2
      have HB2 := hid (HB1.out.trans (hb2.mono HB1.out.size))
      obtain ⟨a2, c2, rfl⟩ := hs2.val
      clear hs2 hb2
      go_wp2_with fail
      refine (text_types _ (ts.eraseIdx i) g _ HS2.out HF.out).mono ?_
      rintro e w3 ⟨rfl, rfl⟩
      go_wp2
      go_ret2
      exact said_of HN.out HB2.out

end Go.Proofs.YtjkmaioidekjcaaDoor.mtypes
