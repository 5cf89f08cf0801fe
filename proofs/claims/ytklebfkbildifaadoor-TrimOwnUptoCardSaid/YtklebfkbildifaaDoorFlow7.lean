/- What comes next: the reference's Reached and the law's reached. Conditions: no instruction goes on outside the code; the start's places are the code's. -/
import Derived.Test.YtklebfkbildifaaDoorFlow5
namespace Go.Proofs.YtklebfkbildifaaDoor.flows
open Go.RowKit Go.Proofs.YtklebfkbildifaaDoor.lib Go.Proofs.YtklebfkbildifaaDoor.errs Go.Proofs.YtklebfkbildifaaDoor.names Go.Proofs.YtklebfkbildifaaDoor.descs Go.Proofs.YtklebfkbildifaaDoor.ins Go.Proofs.YtklebfkbildifaaDoor.reach

theorem bad_all : ∀ {l : List I}, badIns l = 0 → ∀ x ∈ l, insFault x = 0
  | [], _, x, hx => by cases hx
  | y :: l, h, x, hx => by
    unfold badIns at h
    by_cases hy : insFault y = 0
    · rw [if_pos hy] at h
      rcases List.mem_cons.1 hx with e | e
      · rw [e]; exact hy
      · exact bad_all h x e
    · rw [if_neg hy] at h; exact absurd h hy
theorem out_all {n : Nat} : ∀ {l : List I}, jumpsOut n l = false → ∀ x ∈ l, jumpsOp x.op = true → x.a < (n : Int)
  | [], _, x, hx => by cases hx
  | y :: l, h, x, hx => by
    unfold jumpsOut at h
    by_cases hy : jumpsOp y.op = true ∧ (n : Int) ≤ y.a
    · rw [if_pos hy] at h; cases h
    · rw [if_neg hy] at h
      rcases List.mem_cons.1 hx with e | e
      · rw [e]; intro hj
        exact Int.not_le.1 (fun h' => hy ⟨hj, h'⟩)
      · exact out_all h x e
theorem jump_ge {x : I} (h : insFault x = 0) (hj : jumpsOp x.op = true) : 0 ≤ x.a := by
  unfold insFault at h
  split at h
  · cases h
  · split at h
    · cases h
    · split at h
      · cases h
      · rename_i hr
        have hr' : rangedOk x = true := by simpa using hr
        have ho : x.op = 12 ∨ x.op = 13 ∨ x.op = 14 := by simpa [jumpsOp, or_assoc] using hj
        unfold rangedOk at hr'
        rw [if_neg (by omega), if_neg (by omega), if_neg (by omega), if_pos hj] at hr'
        have := of_decide_eq_true hr'
        exact this.1
theorem right_of {l : List I} (h : codeFault l = 0) : Right l ∧ 0 < l.length ∧ l.length ≤ 40 := by
  unfold codeFault at h
  by_cases h40 : 40 < l.length
  · rw [if_pos h40] at h; cases h
  · rw [if_neg h40] at h
    by_cases hb : badIns l = 0
    · rw [if_neg (by simp [hb])] at h
      cases hj : jumpsOut l.length l with
      | true => rw [if_pos hj] at h; cases h
      | false =>
        rw [if_neg (by rw [hj]; decide)] at h
        cases hE : lastEnds l with
        | false => rw [if_neg (by rw [hE]; decide)] at h; cases h
        | true =>
          have h0 : 0 < l.length := by
            cases l with
            | nil => cases hE
            | cons _ _ => simp
          refine ⟨fun k hk z hz => ?_, h0, by omega⟩
          have hx := List.getElem_mem hk
          unfold afterOf at hz
          rcases List.mem_append.1 hz with hz | hz
          · cases he : endsOp l[k].op with
            | true => rw [he, if_pos rfl] at hz; cases hz
            | false =>
              rw [he, if_neg (by decide)] at hz
              have := List.mem_singleton.1 hz
              have hne : k + 1 ≠ l.length := fun h => by
                have := last_at (l := l) (k := k) h.symm
                rw [hE, he] at this; cases this
              omega
          · split at hz
            · rename_i hc
              have := List.mem_singleton.1 hz
              have h1 := jump_ge (bad_all hb _ hx) hc.1
              have h2 := out_all hj _ hx hc.1
              omega
            · cases hz
    · rw [if_pos hb] at h; exact absurd h hb

/-- the marked places below k -/
def idxTo (s : List Bool) (k : Nat) : List Nat := (List.range k).filter fun i => decide (s[i]? = some true)
theorem idx_zero (s : List Bool) : idxTo s 0 = [] := rfl
theorem idx_yes {s : List Bool} {k : Nat} (h : s[k]? = some true) : idxTo s (k + 1) = idxTo s k ++ [k] := by
  unfold idxTo; rw [List.range_succ, List.filter_append]; simp [h]
theorem idx_no {s : List Bool} {k : Nat} (h : ¬ s[k]? = some true) : idxTo s (k + 1) = idxTo s k := by
  unfold idxTo; rw [List.range_succ, List.filter_append]; simp [h]
theorem idx_le (s : List Bool) (k : Nat) : (idxTo s k).length ≤ k := by
  have := List.length_filter_le (fun i => decide (s[i]? = some true)) (List.range k)
  rwa [List.length_range] at this
def reachOf (l : List I) : List Nat := idxTo (reached (succOf l) l.length [0]) l.length

/-- what flow.Reach answers -/
def ReachBy (w : World) (l : List I) (e : Ending) (w' : World) : Prop :=
  if codeFault l = 0 then ∃ v, e = .returned (.tuple #[v, .nilIface]) ∧ Out w w' 3 1 v (reachOf l).length (nats (reachOf l))
  else e = .returned (.tuple #[.slice none 0 0, .iface 38 (.int .i64 (codeFault l))]) ∧ Below w.heap.size w w'
theorem reachBy_no {w w' : World} {l : List I} (h : ¬ codeFault l = 0) (hb : Below w.heap.size w w') : ReachBy w l (.returned (.tuple #[.slice none 0 0, .iface 38 (.int .i64 (codeFault l))])) w' := by
  unfold ReachBy; rw [if_neg h]; exact ⟨rfl, hb⟩
theorem reachBy_yes {w w' : World} {l : List I} {v : Value} (h : codeFault l = 0) (ho : Out w w' 3 1 v (reachOf l).length (nats (reachOf l))) : ReachBy w l (.returned (.tuple #[v, .nilIface])) w' := by
  unfold ReachBy; rw [if_pos h]; exact ⟨v, rfl, ho⟩
theorem reachBy_bad {w w' : World} {l : List I} {e : Ending} (h : ¬ codeFault l = 0) (hr : ReachBy w l e w') : e = .returned (.tuple #[.slice none 0 0, .iface 38 (.int .i64 (codeFault l))]) ∧ Below w.heap.size w w' := by
  unfold ReachBy at hr; rwa [if_neg h] at hr
theorem reachBy_good {w w' : World} {l : List I} {e : Ending} (h : codeFault l = 0) (hr : ReachBy w l e w') : ∃ v, e = .returned (.tuple #[v, .nilIface]) ∧ Out w w' 3 1 v (reachOf l).length (nats (reachOf l)) := by
  unfold ReachBy at hr; rwa [if_pos h] at hr

theorem nats_one (k : Nat) : nats [k] = [.int .i64 (k : Int)] := rfl

end Go.Proofs.YtklebfkbildifaaDoor.flows

namespace Go.Proofs.YtklebfkbildifaaDoor.flows
open Go.RowKit Go.Proofs.YtklebfkbildifaaDoor.lib Go.Proofs.YtklebfkbildifaaDoor.errs Go.Proofs.YtklebfkbildifaaDoor.names Go.Proofs.YtklebfkbildifaaDoor.descs Go.Proofs.YtklebfkbildifaaDoor.ins Go.Proofs.YtklebfkbildifaaDoor.reach

/-- the marks lie in the block made first -/
abbrev Marks (w0 w : World) (n : Nat) (s : List Bool) : Prop := Out w0 w 4 1 (.slice (some ⟨w0.heap.size, 0, none⟩) n n) n (bools s)
theorem Marks.cells {w0 w : World} {n : Nat} {s : List Bool} (h : Marks w0 w n s) (hl : s.length = n) {k : Nat} (hk : k < n) :
    w.cell? ⟨w0.heap.size, k, none⟩ = some (.bool (s[k]'(by omega))) ∧ w.frozen? ⟨w0.heap.size, k, none⟩ = false ∧ Marks w0 (w.setCell ⟨w0.heap.size, k, none⟩ (.bool true)) n (s.set k true) := by
  obtain ⟨g0, cap0, u0, hv0, hg0, hcu, hfz, hset⟩ := Out.store h hk
  simp only [Value.slice.injEq, Option.some.injEq, Addr.mk.injEq] at hv0
  obtain ⟨⟨rfl, _, _⟩, _, rfl⟩ := hv0
  obtain ⟨gs, cs, hvs, hcs, hscells⟩ := Out.shape h (by omega)
  simp only [Value.slice.injEq, Option.some.injEq, Addr.mk.injEq] at hvs
  obtain ⟨⟨rfl, _, _⟩, _, rfl⟩ := hvs
  refine ⟨hscells k _ (bools_at (by omega)), hfz, ?_⟩
  have := hset (.bool true)
  rwa [bools_set] at this

theorem mark_take {s : List Bool} {js : List Nat} {k : Nat} (h : k < js.length) : reach.mark s (js.take (k + 1)) = (reach.mark s (js.take k)).set js[k] true := by
  rw [List.take_add_one, List.getElem?_eq_getElem h, Option.toList_some, mark_snoc]
theorem ints_read {w : World} {a : Option Addr} {n c : Nat} {js : List Nat} (h : Sl w (.slice a n c) n 1 (nats js)) {k : Nat} (hk : k < js.length) :
    ∃ b off, a = some ⟨b, off, none⟩ ∧ w.cell? ⟨b, off + k, none⟩ = some (.int .i64 (js[k] : Int)) := by
  obtain ⟨b, off, h1, h2⟩ := Sl.ints h (k := k) (by rw [List.length_map]; exact hk)
  exact ⟨b, off, h1, by rw [h2, List.getElem_map]⟩

set_option maxRecDepth 100000 in
set_option maxHeartbeats 8000000 in
theorem reached_any (va vf : Value) (l : List I) (fr : List Nat) (w : World) (ha : Code w va l) (hv : Sl w vf fr.length 1 (nats fr)) (hR : Right l) (hf : ∀ k ∈ fr, k < l.length) (hn : l.length ≤ 2000000) (hfl : fr.length ≤ 2000000) :
    Calls Tryd.prog 20 #[va, vf] w fun e w' => ∃ v, e = .returned v ∧ Out w w' 4 1 v l.length (bools (reached (succOf l) l.length fr)) := by
  obtain ⟨a, c, rfl⟩ := ha.val
  obtain ⟨a2, c2, rfl⟩ := hv.val
  have HA := hid ha; have HV := hid hv; have HR := hid hR; have HF := hid hf
  have hmk := run_make_row' (P := Tryd.prog) 44 4 (.bool false) 1 Tryd.underlying44 infoBool rfl .i64 .i64 l.length (by omega) (by omega)
  rw [madeCells_one] at hmk
  have HO : Hid (Marks w (w.alloc (.cells (Array.replicate l.length (.bool false)) 4)) l.length (List.replicate l.length false)) := hid (by
    have := Out.row w (.bool false) 4 l.length (by unfold maxLen; omega)
    unfold Marks
    rw [show bools (List.replicate l.length false) = List.replicate l.length (.bool false) from by simp [bools]]; exact this)
  have HS0 := hid (succ_lt hR)
  clear ha hv hR hf
  go_enter Tryd.func20, Tryd.ntmps20
  go_wp2_with fail
  go_loopw [6] (fun i wr => ∃ k : Nat, k ≤ fr.length ∧ i = .int .i64 k ∧ Hid (Marks w wr l.length (reach.mark (List.replicate l.length false) (fr.take k)))) (fun i _ => fr.length - (intOf i).toNat)
  case atStart => exact ⟨0, Nat.zero_le _, rfl, HO⟩
  case round =>
    obtain ⟨k, hk, rfl, HM⟩ := hrel
    clear HO hmk
    by_cases hlt : k < fr.length
    · obtain ⟨bx, ox, hax, hcx⟩ := ints_read (HV.out.below HM.out.below) hlt
      subst hax
      have hkl := HF.out _ (List.getElem_mem hlt)
      obtain ⟨hm1, hm2, hm3⟩ := Marks.cells HM.out (by rw [mark_len, List.length_replicate]) hkl
      have HM2 := hid (show Marks w _ l.length (reach.mark (List.replicate l.length false) (fr.take (k + 1))) from by rw [mark_take hlt]; exact hm3)
      have hi : (0 : Int) ≤ (k : Int) := by omega
      have hkf : (k : Int) < (fr.length : Int) := by omega
      clear hm3
      obtain ⟨B, hm1⟩ : ∃ B, wr.cell? ⟨w.heap.size, fr[k], none⟩ = some (.bool B) := ⟨_, hm1⟩
      generalize fr[k] = K at hkl hm1 hm2 HM2 hcx
      have hK0 : (0 : Int) ≤ (K : Int) := by omega
      have hKl : (K : Int) < (l.length : Int) := by omega
      go_wp2
      go_roundw
      case rel => exact ⟨k + 1, by omega, by go_num, HM2⟩
      case measure => simp [intOf]; omega
    · have HM1 : Hid (Marks w wr l.length (rounds (succOf l) l.length (reach.mark (List.replicate l.length false) fr) 0)) := hid (by
        have := HM.out
        rwa [List.take_of_length_le (by omega)] at this)
      obtain ⟨s0, hs0⟩ : ∃ s0, reach.mark (List.replicate l.length false) fr = s0 := ⟨_, rfl⟩
      have HS1 := hid hs0
      have HL1 : Hid (s0.length = l.length) := hid (by rw [← hs0, mark_len, List.length_replicate])
      rw [hs0] at HM1
      clear HM hs0
      go_wp2_with fail
      go_loopw [7] (fun i wr => ∃ r : Nat, r ≤ l.length ∧ i = .int .i64 r ∧ Hid (Marks w wr l.length (rounds (succOf l) l.length s0 r))) (fun i _ => l.length - (intOf i).toNat)
      case atStart => exact ⟨0, Nat.zero_le _, rfl, HM1⟩
      case round =>
        obtain ⟨r, hr, rfl, HM2⟩ := hrel
        clear HM1
        by_cases hrl : r < l.length
        · have HL2 := hid (rounds_len HS0.out HL1.out r)
          obtain ⟨s1, hs1⟩ : ∃ s1, rounds (succOf l) l.length s0 r = s1 := ⟨_, rfl⟩
          have HS2 := hid hs1
          rw [hs1] at HM2 HL2
          have HM3 : Hid (Marks w wr l.length (roundTo (succOf l) s1 0)) := HM2
          have hrI : (0 : Int) ≤ (r : Int) := by omega
          have hrI2 : (r : Int) < (l.length : Int) := by omega
          clear hs1 HM2
          go_wp2_with fail
          go_loopw [8] (fun i wr => ∃ k : Nat, k ≤ l.length ∧ i = .int .i64 k ∧ Hid (Marks w wr l.length (roundTo (succOf l) s1 k))) (fun i _ => l.length - (intOf i).toNat)
          case atStart => exact ⟨0, Nat.zero_le _, rfl, HM3⟩
          case round =>
            obtain ⟨i, hil, rfl, HM4⟩ := hrel
            clear HM3
            by_cases hit : i < l.length
            · have HL4 : Hid ((roundTo (succOf l) s1 i).length = l.length) := hid (by rw [roundTo_len HS0.out, HL2.out])
              have HSW := hid (roundTo_succ (succOf l) s1 i)
              obtain ⟨s2, hs2⟩ : ∃ s2, roundTo (succOf l) s1 i = s2 := ⟨_, rfl⟩
              rw [hs2] at HM4 HL4 HSW
              have hi0 : (0 : Int) ≤ (i : Int) := by omega
              have hi1 : (i : Int) < (l.length : Int) := by omega
              have HSJ := hid (HS0.out i hit)
              have HY : Hid ((afterOf l[i] i).map (.int .i64) = nats (succOf l i) ∧ (afterOf l[i] i).length = (succOf l i).length) := hid (by
                have := succ_ints HR.out hit
                rw [this]; exact ⟨rfl, by rw [List.length_map]⟩)
              have H2 := hid (after_len l[i] i)
              clear hs2
              go_wp2_with fail
              refine (rafter_any _ l i _ (HA.out.below HM4.out.below) hit (by omega)).mono ?_
              rintro e w3 ⟨v, rfl, ho3⟩
              rw [HY.out.1, HY.out.2] at ho3
              have hj2 : (succOf l i).length ≤ 2 := by rw [← HY.out.2]; exact H2.out
              have hg1 := (HM4.out.own.lt _ rfl).2
              simp only at hg1
              have HAP : Hid (Apart (.slice (some ⟨w.heap.size, 0, none⟩) l.length l.length) v) := hid (fun k hk h2 => by
                cases hk
                have := (ho3.own.lt _ h2).1
                simp only at this
                omega)
              have HV3 := hid (Out.since HM4.out.below ho3)
              obtain ⟨a3, c3, rfl⟩ := ho3.sl.val
              have HM5 : Hid (Marks w w3 l.length s2) := hid (HM4.out.later ho3.below)
              obtain ⟨js, hjs⟩ : ∃ js, succOf l i = js := ⟨_, rfl⟩
              have HJS := hid hjs
              rw [hjs] at HV3 HSJ hj2
              have hi2 : i < s2.length := by rw [HL4.out]; exact hit
              clear ho3 HM4 HY H2 hjs hg1
              cases hB : s2[i] with
              | true =>
                have HAt : Hid (At s2 i) := hid (by unfold At; rw [List.getElem?_eq_getElem hi2, hB])
                have HM6 : Hid (Marks w w3 l.length (reach.mark s2 (js.take 0)) ∧ Out w w3 3 1 (.slice a3 js.length c3) js.length (nats js)) := hid ⟨HM5.out, HV3.out⟩
                rw [HJS.out] at HAP ⊢
                clear HM5 HV3 hB
                go_wp2_with fail
                go_loopw [10] (fun i4 wr4 => ∃ k : Nat, k ≤ js.length ∧ i4 = .int .i64 k ∧ Hid (Marks w wr4 l.length (reach.mark s2 (js.take k)) ∧ Out w wr4 3 1 (.slice a3 js.length c3) js.length (nats js))) (fun i4 _ => js.length - (intOf i4).toNat)
                case atStart => exact ⟨0, Nat.zero_le _, rfl, HM6⟩
                case round =>
                  obtain ⟨k, hk, rfl, HM7⟩ := hrel
                  clear HM6
                  have hml : (reach.mark s2 (js.take k)).length = l.length := by rw [mark_len, HL4.out]
                  by_cases hkj : k < js.length
                  · obtain ⟨hc1, _, _⟩ := Marks.cells HM7.out.1 hml hit
                    have hAt2 : (reach.mark s2 (js.take k))[i]'(by omega) = true := by
                      have h1 : At (reach.mark s2 (js.take k)) i := (at_mark _ (fun j hj => by rw [HL4.out]; exact HSJ.out j (List.mem_of_mem_take hj))).2 (.inr HAt.out)
                      unfold At at h1
                      rw [List.getElem?_eq_getElem (by omega)] at h1
                      exact Option.some.inj h1
                    rw [hAt2] at hc1
                    obtain ⟨bx, ox, hax, hcx⟩ := ints_read HM7.out.2.sl hkj
                    subst hax
                    have hkl := HSJ.out _ (List.getElem_mem hkj)
                    obtain ⟨hm0, hm2, hm3⟩ := Marks.cells HM7.out.1 hml hkl
                    have HM8 := hid (show Marks w _ l.length (reach.mark s2 (js.take (k + 1))) from by rw [mark_take hkj]; exact hm3)
                    have HV8 := hid (HM7.out.1.set_other (x := .bool true) HM7.out.2 HAP.out js[k])
                    obtain ⟨B, hm1⟩ : ∃ B, wr.cell? ⟨w.heap.size, js[k], none⟩ = some (.bool B) := ⟨_, hm0⟩
                    have hk0 : (0 : Int) ≤ (k : Int) := by omega
                    have hkf : (k : Int) < (js.length : Int) := by omega
                    clear hm0 hm3 hAt2 hml HM7
                    generalize js[k] = K at hkl hm1 hm2 HM8 HV8 hcx
                    have hK0 : (0 : Int) ≤ (K : Int) := by omega
                    have hKl : (K : Int) < (l.length : Int) := by omega
                    go_wp2
                    go_roundw
                    case rel => exact ⟨k + 1, by omega, by go_num, hid ⟨HM8.out, HV8.out⟩⟩
                    case measure => simp [intOf]; omega
                  · have HM8 : Hid (Marks w wr l.length (roundTo (succOf l) s1 (i + 1))) := hid (by
                      have h1 := HM7.out.1
                      rw [List.take_of_length_le (by omega)] at h1
                      rw [HSW.out]
                      unfold sweep
                      have h2 := HAt.out
                      unfold At at h2
                      rw [if_pos h2, HJS.out]
                      exact h1)
                    clear HM7 hml
                    go_wp2
                    go_roundw
                    case rel => exact ⟨i + 1, by omega, by go_num, HM8⟩
                    case measure => simp [intOf]; omega
              | false =>
                have HM8 : Hid (Marks w w3 l.length (roundTo (succOf l) s1 (i + 1))) := hid (by
                  rw [HSW.out]
                  unfold sweep
                  rw [if_neg (by rw [List.getElem?_eq_getElem hi2, hB]; simp)]
                  exact HM5.out)
                obtain ⟨hc1, _, _⟩ := Marks.cells HM5.out HL4.out hit
                rw [hB] at hc1
                rw [HJS.out]
                clear HM5 HV3 hB HAP
                go_wp2_with fail
                go_loopw [10] (fun i4 wr4 => w3 = wr4 ∧ i4 = .int .i64 0) (fun _ _ => 0)
                case atStart => exact ⟨rfl, rfl⟩
                case round =>
                  obtain ⟨rfl, rfl⟩ := hrel
                  by_cases hj0 : js.length = 0
                  · obtain rfl : js = [] := List.eq_nil_of_length_eq_zero hj0
                    clear hj0
                    go_wp2
                    go_roundw
                    case rel => exact ⟨i + 1, by omega, by go_num, HM8⟩
                    case measure => simp [intOf]; omega
                  · have hj1 : (0 : Int) < (js.length : Int) := by omega
                    have hj3 : 0 < js.length := by omega
                    clear hj0
                    go_wp2
                    go_roundw
                    case rel => exact ⟨i + 1, by omega, by go_num, HM8⟩
                    case measure => simp [intOf]; omega
            · obtain rfl : i = l.length := by omega
              have HM5 : Hid (Marks w _ l.length (rounds (succOf l) l.length s0 (r + 1))) := hid (by
                have := HM4.out
                unfold rounds
                rw [HS2.out]; exact this)
              clear HM4
              go_wp2
              go_roundw
              case rel => exact ⟨r + 1, by omega, by go_num, HM5⟩
              case measure => simp [intOf]; omega
        · obtain rfl : r = l.length := by omega
          have HX := HM2
          clear HM2
          go_wp2
          go_ret
          refine ⟨_, rfl, ?_⟩
          have h1 := HX.out
          unfold reached
          rw [HS1.out]
          exact h1

end Go.Proofs.YtklebfkbildifaaDoor.flows
