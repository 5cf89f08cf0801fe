/- What is never done: trim.Method. Condition: the method is not long. -/
import Derived.Test.YtklebfkbildifaaDoorHdl1
import Derived.Test.YtklebfkbildifaaDoorRet
import Derived.Test.YtklebfkbildifaaDoorGrow
import Derived.Test.YtklebfkbildifaaDoorOwn
import Derived.Test.YtklebfkbildifaaDoorTrim4
import Derived.Test.YtklebfkbildifaaDoorMSeen
import Derived.Test.YtklebfkbildifaaDoorCls1
namespace Go.Proofs.YtklebfkbildifaaDoor.trims
open Go.RowKit Go.Proofs.YtklebfkbildifaaDoor.lib Go.Proofs.YtklebfkbildifaaDoor.errs Go.Proofs.YtklebfkbildifaaDoor.names Go.Proofs.YtklebfkbildifaaDoor.descs Go.Proofs.YtklebfkbildifaaDoor.ins Go.Proofs.YtklebfkbildifaaDoor.reach Go.Proofs.YtklebfkbildifaaDoor.flows Go.Proofs.YtklebfkbildifaaDoor.hdls Go.Proofs.YtklebfkbildifaaDoor.mseen Go.Proofs.YtklebfkbildifaaDoor.classes

set_option maxRecDepth 100000 in
set_option maxHeartbeats 8000000 in
theorem mreach_any (nm ty : ByteArray) (st ab pr : Bool) (lo : Int) (vc vh : Value) (l : List I) (hs : List Hd) (w : World) (hc : Go.Proofs.YtklebfkbildifaaDoor.flows.Code w vc l) (hv : Hds w vh hs) (h0 : codeFault l = 0) (hH : ∀ h ∈ hs, hdIn l.length h = true) (h8 : hs.length ≤ 8) :
    Calls Tryd.prog 47 #[.agg #[.string nm, .string ty, .bool st, .bool ab, .bool pr, .int .i64 lo, vc, vh]] w fun e w' => ∃ v, e = .returned v ∧ Out w w' 4 1 v l.length (bools (mseen (succOf l) l.length hs)) := by
  obtain ⟨hR, hl0, hl40⟩ := right_of h0
  have hS := succ_lt hR
  obtain ⟨ac, cc, rfl⟩ := hc.val
  obtain ⟨ah, ch, rfl⟩ := hv.val
  obtain ⟨W0, hW0⟩ : ∃ W0, w.alloc (.cells #[.string nm, .string ty, .bool st, .bool ab, .bool pr, .int .i64 lo, .slice ac l.length cc, .slice ah hs.length ch] 25) = W0 := ⟨_, rfl⟩
  have HBX : Hid (W0.cell? ⟨w.heap.size, 6, none⟩ = some (.slice ac l.length cc) ∧ W0.cell? ⟨w.heap.size, 7, none⟩ = some (.slice ah hs.length ch)) := hid (by subst hW0; exact ⟨by rw [World.cell?_alloc_at _ _ _ _ rfl]; rfl, by rw [World.cell?_alloc_at _ _ _ _ rfl]; rfl⟩)
  have HB0 : Hid (Below w.heap.size w W0) := hid (by subst hW0; exact ext_alloc _ _)
  have HC := hid (hc.below HB0.out)
  have HV := hid (hv.below HB0.out)
  have HR := hid hR
  have HS := hid hS
  have HH := hid hH
  have HO0 := hid (Out.lit W0 #[.int .i64 0] 3 1 1 rfl (by decide))
  have HLL := hid (show hs.length ≤ 8 from h8)
  clear hc hv h0 hH hR hS
  go_enter Tryd.func47, Tryd.ntmps47
  go_wp2_with fail
  go_loopw [3] (fun vf wr => ∃ F : List Nat, slen vf = F.length ∧ Hid (Out W0 wr 3 1 vf F.length (nats F)) ∧ Hid (Okay (succOf l) l.length hs F) ∧ Hid (F.length ≤ 8 * count (reached (succOf l) l.length F) + 1)) (fun vf _ => 400 - slen vf)
  case atStart => exact ⟨[0], rfl, HO0, hid (Okay.start hl0), hid (by simp)⟩
  case round =>
    obtain ⟨F, hsl, HO, HOK, HFL⟩ := hrel
    clear hW0 HO0
    have hcnt := count_le HS.out F
    have hfl := HFL.out
    obtain ⟨af, cf, hvf⟩ := HO.out.sl.val
    subst hvf
    have hm6 : wr.cell? ⟨w.heap.size, 6, none⟩ = some (.slice ac l.length cc) := by rw [HO.out.below.cell (World.block_lt_of_cell? _ _ HBX.out.1)]; exact HBX.out.1
    have HFR := hid (from_any (.slice ac l.length cc) (.slice af F.length cf) l F wr (HC.out.below HO.out.below) HO.out.sl HR.out HOK.out.lt (by omega) (by omega))
    go_wp2_with fail
    refine HFR.out.mono ?_
    rintro e w2 ⟨v2, rfl, ho2⟩
    have HO2 := hid (HO.out.later ho2.below)
    have HAP : Hid (Apart (.slice af F.length cf) v2) := hid (fun k h1 h2 => by
      have h3 := (HO.out.own.lt k h1).2
      have h4 := (ho2.own.lt k h2).1
      omega)
    have HSN := hid (Out.since HO.out.below ho2)
    obtain ⟨s, hs_⟩ : ∃ s, reached (succOf l) l.length F = s := ⟨_, rfl⟩
    have HSE := hid hs_
    rw [hs_] at HSN
    have hslen : s.length = l.length := by rw [← hs_]; exact reached_len HS.out
    obtain ⟨a2, c2, hv2⟩ := ho2.sl.val
    subst hv2
    clear ho2 hs_ hm6 hcnt hfl
    have hm7 : w2.cell? ⟨w.heap.size, 7, none⟩ = some (.slice ah hs.length ch) := by rw [HO2.out.below.cell (World.block_lt_of_cell? _ _ HBX.out.2)]; exact HBX.out.2
    go_wp2_with fail
    go_loopw [3, 19] (fun vf i w3 => ∃ k : Nat, k ≤ hs.length ∧ i = .int .i64 k ∧ slen vf = (F ++ newTo s hs k).length ∧ Hid (Out W0 w3 3 1 vf (F ++ newTo s hs k).length (nats (F ++ newTo s hs k))) ∧ Hid (Out W0 w3 4 1 (.slice a2 l.length c2) l.length (bools s)) ∧ Hid (Apart vf (.slice a2 l.length c2))) (fun _ i _ => hs.length - (intOf i).toNat)
    case atStart =>
      refine ⟨0, Nat.zero_le _, rfl, ?_, ?_, HSN, HAP⟩
      · rw [newTo_zero, List.append_nil]; rfl
      · rw [newTo_zero, List.append_nil]; exact HO2
    case round =>
      obtain ⟨k, hk, rfl, hsl3, HO3, HS3, HA3⟩ := hrel
      clear HO2 HSN HAP hm7
      have hnl := newTo_len (hs := hs) s k
      have h8' := HLL.out
      have hFN : (F ++ newTo s hs k).length ≤ 400 := by
        have := HFL.out
        have h9 := count_le HS.out F
        rw [List.length_append]; omega
      obtain ⟨q3, hq3⟩ : ∃ q, (F ++ newTo s hs k).length = q := ⟨_, rfl⟩
      have HQ3 := hid hq3
      rw [hq3] at HO3 hFN
      obtain ⟨af3, cf3, hvf3⟩ := HO3.out.sl.val
      subst hvf3
      clear hsl3 hq3
      by_cases hlt : k < hs.length
      · obtain ⟨b, off, hab, hc0, hc1, hc2, hc3⟩ := hd_at (HV.out.below HO3.out.below) hlt
        subst hab
        have hi : (0 : Int) ≤ (k : Int) := by omega
        have hkl : (k : Int) < (hs.length : Int) := by omega
        obtain ⟨hat, hat0, hf0, hft, hto⟩ := in_at HH.out (List.getElem_mem hlt)
        have HYES := hid (newTo_yes (s := s) hlt)
        have HNO := hid (newTo_no (s := s) hlt)
        generalize hs[k] = x at hc0 hc1 hc2 hc3 hat hat0 hf0 hft hto HYES HNO
        obtain ⟨fr, to, at_, cls⟩ := x
        simp only at hc0 hc1 hc2 hc3 hat hat0 hf0 hft hto
        obtain ⟨A, rfl⟩ : ∃ A : Nat, at_ = (A : Int) := ⟨at_.toNat, by omega⟩
        obtain ⟨G, rfl⟩ : ∃ G : Nat, fr = (G : Int) := ⟨fr.toNat, by omega⟩
        obtain ⟨T, rfl⟩ : ∃ T : Nat, to = (T : Int) := ⟨to.toNat, by omega⟩
        have hA : A < l.length := by omega
        have HE3 := hid (ext_alloc wr (.cells #[.int .i64 (G : Int), .int .i64 (T : Int), .int .i64 (A : Int), .string cls] 35))
        have HO4 := hid (HO3.out.later HE3.out)
        have HS4 := hid (HS3.out.later HE3.out)
        obtain ⟨bs_, os_, has, hsA⟩ := Out.bool_at HS4.out (k := A) (by omega) hslen
        subst has
        have e0 : (wr.alloc (.cells #[.int .i64 (G : Int), .int .i64 (T : Int), .int .i64 (A : Int), .string cls] 35)).cell? ⟨wr.heap.size, 0, none⟩ = some (.int .i64 (G : Int)) := by rw [World.cell?_alloc_at _ _ _ _ rfl]; rfl
        have e1 : (wr.alloc (.cells #[.int .i64 (G : Int), .int .i64 (T : Int), .int .i64 (A : Int), .string cls] 35)).cell? ⟨wr.heap.size, 1, none⟩ = some (.int .i64 (T : Int)) := by rw [World.cell?_alloc_at _ _ _ _ rfl]; rfl
        have e2 : (wr.alloc (.cells #[.int .i64 (G : Int), .int .i64 (T : Int), .int .i64 (A : Int), .string cls] 35)).cell? ⟨wr.heap.size, 2, none⟩ = some (.int .i64 (A : Int)) := by rw [World.cell?_alloc_at _ _ _ _ rfl]; rfl
        go_wp2_with fail
        obtain ⟨W4, hW4⟩ : ∃ W4, wr.alloc (.cells #[.int .i64 (G : Int), .int .i64 (T : Int), .int .i64 (A : Int), .string cls] 35) = W4 := ⟨_, rfl⟩
        rw [hW4] at e0 e1 e2 HO4 HS4 hsA HE3 ⊢
        clear hc0 hc1 hc2 hc3
        go_loopw [3, 8] (fun vf i w5 => ∃ j : Nat, w5 = W4 ∧ vf = .slice af3 q3 cf3 ∧ i = .int .i64 j ∧ G ≤ j ∧ j ≤ T ∧ Hid (∀ q : Nat, G ≤ q → q < j → ¬ (At s q ∧ ¬ At s A))) (fun _ i _ => T - (intOf i).toNat)
        case atStart => exact ⟨G, by first | trivial | rfl, by first | trivial | rfl, by first | trivial | rfl, Nat.le_refl _, by omega, hid (fun q h1 h2 => absurd h2 (by omega))⟩
        case round =>
          obtain ⟨j, hw5, hv5, rfl, hGj, hjT, HJ⟩ := hrel
          subst hw5 hv5
          by_cases hjt : j < T
          · have hj0 : (0 : Int) ≤ (j : Int) := by omega
            have hA0 : (0 : Int) ≤ (A : Int) := by omega
            have hjT2 : (j : Int) < (T : Int) := by omega
            have hjl : (j : Int) < (l.length : Int) := by omega
            have hjn : j < s.length := by omega
            have hAn : A < s.length := by omega
            obtain ⟨bj, oj, hbj, hcj⟩ := Out.bool_at HS4.out (k := j) hjn hslen
            obtain ⟨rfl, rfl⟩ : bs_ = bj ∧ os_ = oj := by simpa using hbj
            cases hsj : s[j] with
            | false =>
              rw [hsj] at hcj
              have HNJ := hid (show ¬ At s j from fun h => by unfold At at h; rw [List.getElem?_eq_getElem hjn, hsj] at h; cases h)
              go_wp2_with fail
              go_roundw
              case rel =>
                refine ⟨j + 1, by first | trivial | rfl, by first | trivial | rfl, by go_num, by omega, by omega, hid (fun q h1 h2 => ?_)⟩
                by_cases h : q < j
                · exact HJ.out q h1 h
                · obtain rfl : q = j := by omega
                  exact fun h3 => HNJ.out h3.1
              case measure => simp [intOf]; omega
            | true =>
              rw [hsj] at hcj
              have HYJ := hid (show At s j from by unfold At; rw [List.getElem?_eq_getElem hjn, hsj])
              cases hsa : s[A] with
              | true =>
                rw [hsa] at hsA
                have HYA := hid (show At s A from by unfold At; rw [List.getElem?_eq_getElem hAn, hsa])
                go_wp2_with fail
                go_roundw
                case rel => refine ⟨j + 1, by first | trivial | rfl, by first | trivial | rfl, by go_num, by omega, by omega, hid (fun q h1 h2 h3 => h3.2 HYA.out)⟩
                case measure => simp [intOf]; omega
              | false =>
                rw [hsa] at hsA
                have HNA := hid (show ¬ At s A from fun h => by unfold At at h; rw [List.getElem?_eq_getElem hAn, hsa] at h; cases h)
                have HNW : Hid (newTo s hs (k + 1) = newTo s hs k ++ [A]) := hid (HYES.out (newOne_yes ⟨j, by show (G : Int) ≤ (j : Int); omega, by show (j : Int) < (T : Int); omega, HYJ.out⟩ HNA.out))
                go_wp2_with (at_builtin; refine wpList_append_lit_at W0 wr _ rfl _ _ 46 rfl 3 (.int .i64 0) 1 8 1 Tryd.underlying46 infoInt rfl (by decide) _ _ _ HO4.out rfl rfl rfl ?_ ?_ ?_ ?_)
                all_goals first | (intro v1' wa ho1 hg1 hat1) | omega | (simp [Value.oneCell']; done) | skip
                have HS5 := hid (HO4.out.beside HS4.out HA3.out hg1)
                have HA5 := hid (HA3.out.step HS4.out hat1)
                have e5 : nats (F ++ newTo s hs (k + 1)) = nats (F ++ newTo s hs k) ++ [.int .i64 (A : Int)] := by rw [HNW.out, ← List.append_assoc, nats_append]; rfl
                have HE6 : Hid (q3 + 1 = (F ++ newTo s hs (k + 1)).length) := hid (by rw [HNW.out, ← List.append_assoc, List.length_append, HQ3.out]; rfl)
                obtain ⟨a6, c6, hv6⟩ := ho1.sl.val
                subst hv6
                have HO5 : Hid (Out W0 wa 3 1 (.slice a6 (q3 + 1) c6) (F ++ newTo s hs (k + 1)).length (nats (F ++ newTo s hs (k + 1)))) := hid (by rw [e5, ← HE6.out]; exact ho1)
                clear ho1 hg1 hat1 e5
                go_wp2_with fail
                go_roundw
                case rel => exact ⟨k + 1, by omega, by go_num, HE6.out, HO5, HS5, HA5⟩
                case measure => simp [intOf]; omega
          · obtain rfl : j = T := by omega
            have HNW : Hid (newTo s hs (k + 1) = newTo s hs k) := hid (HNO.out (by
              by_cases hA9 : At s A
              · exact newOne_no hA9
              · exact newOne_quiet (fun ⟨q, h1, h2, h3⟩ => HJ.out q (by have : (G : Int) ≤ (q : Int) := h1; omega) (by have : (q : Int) < (j : Int) := h2; omega) ⟨h3, hA9⟩)))
            have HO5 : Hid (Out W0 wr 3 1 (.slice af3 q3 cf3) (F ++ newTo s hs (k + 1)).length (nats (F ++ newTo s hs (k + 1)))) := hid (by rw [HNW.out, HQ3.out]; exact HO4.out)
            go_wp2_with fail
            go_roundw
            case rel => exact ⟨k + 1, by omega, by go_num, by rw [HNW.out, HQ3.out]; rfl, HO5, HS4, HA3⟩
            case measure => simp [intOf]; omega
      · obtain rfl : k = hs.length := by omega
        have hFL := HFL.out
        have hcnt := count_le HS.out F
        have h401 : q3 = F.length + (newTo s hs hs.length).length := HQ3.out.symm.trans List.length_append
        by_cases hz : newTo s hs hs.length = []
        · have HQ : Hid (s = mseen (succOf l) l.length hs) := hid (by
            have := new_done HS.out HOK.out (by rw [HSE.out]; exact hz)
            rw [HSE.out] at this; exact this)
          obtain rfl : q3 = F.length := by rw [h401, hz]; rfl
          clear h401
          go_wp2_with fail
          go_ret
          exact ⟨_, rfl, by rw [← HQ.out]; exact Out.since HB0.out HS3.out⟩
        · have hz1 : 0 < (newTo s hs hs.length).length := List.length_pos_iff.2 hz
          have hqn : ¬ ((q3 : Int) = (F.length : Int)) := by omega
          have hqF : F.length < q3 := by omega
          have hq4 : q3 ≤ 400 := by omega
          have HK2 : Hid (Okay (succOf l) l.length hs (F ++ newTo s hs hs.length)) := hid (by
            have := new_okay HS.out HH.out HOK.out hs.length
            rw [HSE.out] at this; exact this)
          have HG2 : Hid ((F ++ newTo s hs hs.length).length ≤ 8 * count (reached (succOf l) l.length (F ++ newTo s hs hs.length)) + 1) := hid (by
            have := new_grows HS.out HH.out HOK.out (k := hs.length) (by rw [HSE.out]; exact hz)
            rw [HSE.out] at this
            have h9 := HSE.out
            rw [h9] at hFL
            have h10 := HQ3.out
            omega)
          clear h401 hFN hnl
          go_wp2_with fail
          go_roundw
          case rel => exact ⟨F ++ newTo s hs hs.length, by rw [HQ3.out]; rfl, by rw [HQ3.out]; exact HO3, HK2, HG2⟩
          case measure => simp [slen]; omega
end Go.Proofs.YtklebfkbildifaaDoor.trims

namespace Go.Proofs.YtklebfkbildifaaDoor.trims
open Go.RowKit Go.Proofs.YtklebfkbildifaaDoor.lib Go.Proofs.YtklebfkbildifaaDoor.errs Go.Proofs.YtklebfkbildifaaDoor.names Go.Proofs.YtklebfkbildifaaDoor.descs Go.Proofs.YtklebfkbildifaaDoor.ins Go.Proofs.YtklebfkbildifaaDoor.reach Go.Proofs.YtklebfkbildifaaDoor.flows Go.Proofs.YtklebfkbildifaaDoor.hdls Go.Proofs.YtklebfkbildifaaDoor.mseen Go.Proofs.YtklebfkbildifaaDoor.classes Go.Proofs.YtklebfkbildifaaDoor.grow Go.Proofs.YtklebfkbildifaaDoor.keep

/-- is a handler left, and what it is then -/
def keptHd (l : List I) (s : List Bool) (h : Hd) : Bool := decide (placeOf l s h.fr.toNat < placeOf l s h.to.toNat)
def movedHd (l : List I) (s : List Bool) (h : Hd) : Hd := ⟨placeOf l s h.fr.toNat, placeOf l s h.to.toNat, placeOf l s h.at_.toNat, h.cls⟩
def hdsTo (l : List I) (s : List Bool) (hs : List Hd) (k : Nat) : List Hd := ((hs.take k).filter (keptHd l s)).map (movedHd l s)
theorem hdsTo_zero (l : List I) (s : List Bool) (hs : List Hd) : hdsTo l s hs 0 = [] := by simp [hdsTo]
theorem hdsTo_yes {l : List I} {s : List Bool} {hs : List Hd} {k : Nat} (hk : k < hs.length) (h : keptHd l s hs[k] = true) : hdsTo l s hs (k + 1) = hdsTo l s hs k ++ [movedHd l s hs[k]] := by
  unfold hdsTo; rw [List.take_succ_eq_append_getElem hk, List.filter_append, List.map_append]; simp [h]
theorem hdsTo_no {l : List I} {s : List Bool} {hs : List Hd} {k : Nat} (hk : k < hs.length) (h : ¬ keptHd l s hs[k] = true) : hdsTo l s hs (k + 1) = hdsTo l s hs k := by
  unfold hdsTo; rw [List.take_succ_eq_append_getElem hk, List.filter_append, List.map_append]; simp [h]
theorem hdsTo_len (l : List I) (s : List Bool) (hs : List Hd) (k : Nat) : (hdsTo l s hs k).length ≤ k := by
  unfold hdsTo; rw [List.length_map]
  have := List.length_filter_le (keptHd l s) (hs.take k)
  rw [List.length_take] at this
  omega
/-- what is wrong with a method, for trim -/
def tmFault (l : List I) (hs : List Hd) : Int := if codeFault l ≠ 0 then codeFault l else if 8 < hs.length then 4 else hdFault l.length hs
/-- what trim.Method gives: the method itself without what is never done, or none -/
structure TrimmedM (B : Nat) (w : World) (m : MV) (r : MV) : Prop where
  own : w.ownsRow B 33 6 r.vc r.code.length (cellsOf r.code) ∧ w.ownsRow B 35 4 r.vh r.hs.length (hcells r.hs)
  ok : tmFault m.code m.hs = 0 → r.nm = m.nm ∧ r.ty = m.ty ∧ r.st = m.st ∧ r.ab = m.ab ∧ r.pr = m.pr ∧ r.lo = m.lo ∧ r.code = trimOf m.code (mseen (succOf m.code) m.code.length m.hs) ∧ r.hs = hdsTo m.code (mseen (succOf m.code) m.code.length m.hs) m.hs m.hs.length
  no : tmFault m.code m.hs ≠ 0 → r.nm = .empty ∧ r.ty = .empty ∧ r.st = false ∧ r.ab = false ∧ r.pr = false ∧ r.lo = 0 ∧ r.vc = .slice none 0 0 ∧ r.vh = .slice none 0 0 ∧ r.code = [] ∧ r.hs = []
theorem TrimmedM.at_ {B : Nat} {w : World} {m r : MV} (h : TrimmedM B w m r) : r.At w := ⟨sl_of_owns h.own.1, sl_of_owns h.own.2⟩
theorem TrimmedM.none {B : Nat} {w : World} {m : MV} (h : tmFault m.code m.hs ≠ 0) : TrimmedM B w m ⟨.empty, .empty, false, false, false, 0, .slice none 0 0, .slice none 0 0, [], []⟩ :=
  ⟨⟨World.ownsRow_nil _ _ _ _, World.ownsRow_nil _ _ _ _⟩, fun h0 => absurd h0 h, fun _ => ⟨rfl, rfl, rfl, rfl, rfl, rfl, rfl, rfl, rfl, rfl⟩⟩

def sls (s : List Bool) : Value → World → Prop := fun v u => Sl u v s.length 1 (bools s)
theorem sls_stays (s : List Bool) : ∀ v w w', Below w.heap.size w w' → sls s v w → sls s v w' := fun _ _ _ hb h => Sl.below h hb
def tup (i : Nat) : Value → Value | .tuple a => a.getD i undef | _ => undef
def lefts (w3 : World) (l : List I) (s : List Bool) : Value → World → Prop := fun t u => t = .tuple #[tup 0 t, tup 1 t] ∧ Out w3 u 33 6 (tup 0 t) (trimOf l s).length (cellsOf (trimOf l s)) ∧ Out w3 u 3 1 (tup 1 t) (placesL l s).length (nats (placesL l s))
theorem lefts_stays (w3 : World) (l : List I) (s : List Bool) : ∀ v w w', Below w.heap.size w w' → lefts w3 l s v w → lefts w3 l s v w' := fun _ _ _ hb ⟨e, h1, h2⟩ => ⟨e, h1.later hb, h2.later hb⟩
/-- what the last loop keeps: the box's row, the handlers that are left, and all else -/
def TLoop (W5 wr : World) (g : Nat) (row : Value → Array Value) (xs : List Hd) : Prop :=
  ∃ v, wr.heap[g]? = some (.cells (row v) 25) ∧ wr.ownsRow W5.heap.size 35 4 v xs.length (hcells xs) ∧ Keeps (fun k => k = g) W5 wr
theorem infoHd : (Tryd.prog.info? 35).map (fun i => (i.zero, i.size, i.bytes)) = some (some (.agg #[.int .i64 0, .int .i64 0, .int .i64 0, .string { data := #[] }]), 4, 40) := by kernel_rfl
theorem owns_set {w : World} {B g i : Nat} {e : TypeId} {v x : Value} {n : Nat} {xs : List Value} (h : w.ownsRow B e 4 v n xs) (hne : ∀ k, v.ownBlock = some k → k ≠ g) : (w.setCell ⟨g, i, none⟩ x).ownsRow B e 4 v n xs := by
  refine h.kept (grown_set w ⟨g, i, none⟩ x) ?_
  cases hv : v.ownBlock with
  | none => exact .inl rfl
  | some k => exact .inr (fun e => hne k hv (Option.some.inj e))
theorem owns_later {w w' : World} {B : Nat} {e : TypeId} {v : Value} {n : Nat} {xs : List Value} (h : w.ownsRow B e 4 v n xs) (hb : Below w.heap.size w w') : w'.ownsRow B e 4 v n xs :=
  h.kept (row := none) ⟨hb.os, hb.tape, hb.output, hb.size, fun k hk _ => hb.block k hk⟩ (by cases hv : v.ownBlock <;> simp)
theorem keeps_row (w : World) (g : Nat) (cs : Array Value) : Keeps (fun k => k = g) w (w.setRow g cs) :=
  ⟨rfl, rfl, rfl, by simp, fun k _ hk => heap_setRow_other w g k cs hk⟩
theorem TLoop.later {W5 wr w' : World} {g : Nat} {row : Value → Array Value} {xs : List Hd} {v : Value} (h1 : wr.heap[g]? = some (.cells (row v) 25)) (h2 : wr.ownsRow W5.heap.size 35 4 v xs.length (hcells xs)) (h3 : Keeps (fun k => k = g) W5 wr) (hg : g < wr.heap.size) (hb : Below wr.heap.size wr w') :
    TLoop W5 w' g row xs := ⟨v, (hb.block g hg).trans h1, owns_later h2 hb, h3.then (Keeps.of_below (F := fun _ => False) hb) (fun _ _ h => h.elim)⟩
theorem hcells_snoc (l : List Hd) (x : Hd) : hcells (l ++ [x]) = hcells l ++ x.cells := by simp [hcells, List.flatMap_append]
/-- one handler's cells -/
def oneHd (x : Hd) : Value → World → Prop := fun v u => Sl u v 1 4 x.cells
theorem oneHd_stays (x : Hd) : ∀ v w w', Below w.heap.size w w' → oneHd x v w → oneHd x v w' := fun _ _ _ hb h => Sl.below h hb
theorem bad_hd {n : Nat} : ∀ {l : List Hd}, hdBad n l = 0 → ∀ h ∈ l, hdIn n h = true
  | h :: r, e, x, hx => by
    unfold hdBad at e
    by_cases h1 : hdIn n h = false
    · rw [if_pos h1] at e; cases e
    · rw [if_neg h1] at e
      by_cases h2 : nameOk h.cls.data.toList = false
      · rw [if_pos h2] at e; cases e
      · rw [if_neg h2] at e
        rcases List.mem_cons.1 hx with rfl | hm
        · simpa using h1
        · exact bad_hd e x hm
theorem hd_all {n : Nat} {l : List Hd} (h : hdFault n l = 0) : ∀ x ∈ l, hdIn n x = true := by
  unfold hdFault at h
  by_cases h1 : hdBad n l = 0
  · exact bad_hd h1
  · rw [if_pos h1] at h; exact absurd h h1

set_option maxRecDepth 100000 in
set_option maxHeartbeats 8000000 in
theorem tmethod_any (m : MV) (w : World) (hm : m.At w) (hf : FormsAt w) (hsm : SmallM m) :
    Calls Tryd.prog 13 #[.agg m.cells.toArray] w fun e w' => ∃ r, e = .returned (.tuple #[.agg r.cells.toArray, errVal (tmFault m.code m.hs)]) ∧ TrimmedM w.heap.size w' m r ∧ Below w.heap.size w w' := by
  obtain ⟨nm, ty, st, ab, pr, lo, vc, vh, l, hs⟩ := m
  obtain ⟨hc, hv⟩ := hm
  simp only [MV.cells] at hc hv ⊢
  obtain ⟨ac, cc, rfl⟩ := hc.val
  obtain ⟨ah, ch, rfl⟩ := hv.val
  have HSM := hid hsm
  obtain ⟨W0, hW0⟩ : ∃ W0, w.alloc (.cells #[.string nm, .string ty, .bool st, .bool ab, .bool pr, .int .i64 lo, .slice ac l.length cc, .slice ah hs.length ch] 25) = W0 := ⟨_, rfl⟩
  obtain ⟨W1, hW1⟩ : ∃ W1, W0.alloc (.cells #[.string { data := #[] }, .string { data := #[] }, .bool false, .bool false, .bool false, .int .i64 0, .slice none 0 0, .slice none 0 0] 25) = W1 := ⟨_, rfl⟩
  have hm6 : W1.cell? ⟨w.heap.size, 6, none⟩ = some (.slice ac l.length cc) := by subst hW1 hW0; rw [World.cell?_alloc_lt _ _ _ (by rw [World.size_alloc]; exact Nat.lt_succ_self _), World.cell?_alloc_at _ _ _ _ rfl]; rfl
  have HRS : Hid (W1.heap[W0.heap.size]? = some (.cells #[.string { data := #[] }, .string { data := #[] }, .bool false, .bool false, .bool false, .int .i64 0, .slice none 0 0, .slice none 0 0] 25)) := hid (by subst hW1; exact heap_alloc_new _ _)
  have HBX : Hid (W1.heap[w.heap.size]? = some (.cells #[.string nm, .string ty, .bool st, .bool ab, .bool pr, .int .i64 lo, .slice ac l.length cc, .slice ah hs.length ch] 25)) := hid (by subst hW1 hW0; exact heap_alloc2_old _ _ _)
  have HBR := hid (show W0.heap.size < W1.heap.size ∧ w.heap.size < W0.heap.size from by subst hW1 hW0; simp only [World.size_alloc]; omega)
  have HBD := hid (show Below w.heap.size w W1 from by subst hW1 hW0; exact (ext_alloc w _).alloc (ext_alloc w _).size _)
  have HFC := hid (fcheck_any (.slice ac l.length cc) l W1 (hc.below HBD.out) (hf.below HBD.out) HSM.out.code (by have := HSM.out.len; simp only at this; omega))
  go_enter Tryd.func13, Tryd.ntmps13
  go_wp2_with fail
  refine HFC.out.mono ?_
  rintro e w2 ⟨rfl, hb2⟩
  by_cases h0 : codeFault l = 0
  · rw [show errVal (codeFault l) = .nilIface from by rw [h0]; rfl]
    have HBX2 := hid ((hb2.block _ (Nat.lt_trans HBR.out.2 HBR.out.1)).trans HBX.out)
    have HR2 := hid ((hb2.block _ HBR.out.1).trans HRS.out)
    have HB2 := hid (HBD.out.trans (hb2.mono HBD.out.size))
    have hm7 : w2.cell? ⟨w.heap.size, 7, none⟩ = some (.slice ah hs.length ch) := by rw [cell_of_row _ _ _ _ _ _ HBX2.out]; rfl
    by_cases h8 : 8 < hs.length
    · have h8i : (8 : Int) < (hs.length : Int) := by omega
      go_wp2_with (refine wpList_store_row rfl 25 (.tmp 2) (.tmp 22) rfl W0.heap.size _ rfl rfl 25 _ HR2.out (by kernel_rfl) rfl (by simp [Value.oneCell']) ?_)
      refine bodyPost_ret (results_cell_at rfl _ _ W0.heap.size _ _ _ _ rfl (setRow_heap _ _ _ _ _ _ HR2.out) Tryd.underlying25 rfl (by kernel_rfl)) rfl ?_
      have ht : tmFault l hs = 4 := by unfold tmFault; rw [if_neg (by omega), if_pos h8]
      refine ⟨⟨.empty, .empty, false, false, false, 0, .slice none 0 0, .slice none 0 0, [], []⟩, ?_, TrimmedM.none ?_, below_setRow HB2.out (Nat.le_of_lt HBR.out.2) _⟩
      · rw [ht]; rfl
      · show tmFault l hs ≠ 0
        rw [ht]; decide
    · have h8i : ¬ (8 : Int) < (hs.length : Int) := by omega
      have HHD := hid (handlers_any nm ty st ab pr lo ac l.length cc (.slice ah hs.length ch) hs w2 (hv.below HB2.out) (fun h hh => by have := HSM.out.hs h hh; omega) (by omega))
      go_wp2_with (refine wpList_load_row rfl 25 (.tmp 1) rfl w.heap.size rfl _ _ _ _ HBX2.out Tryd.underlying25 rfl (by kernel_rfl) ?_)
      refine HHD.out.mono ?_
      rintro e w3 ⟨rfl, hb3⟩
      have HBX3 := hid ((hb3.block _ (Nat.lt_of_lt_of_le (Nat.lt_trans HBR.out.2 HBR.out.1) hb2.size)).trans HBX2.out)
      have HR3 := hid ((hb3.block _ (Nat.lt_of_lt_of_le HBR.out.1 hb2.size)).trans HR2.out)
      have HB3 := hid (HB2.out.trans (hb3.mono HB2.out.size))
      have ht : tmFault l hs = hdFault l.length hs := by unfold tmFault; rw [if_neg (by omega), if_neg h8]
      by_cases h1 : hdFault l.length hs = 0
      · rw [show errVal (hdFault l.length hs) = .nilIface from by rw [h1]; rfl]
        go_wp2_with fail
--REGION9
        obtain ⟨s, hs_⟩ : ∃ s, mseen (succOf l) l.length hs = s := ⟨_, rfl⟩
        have HSE := hid hs_
        have HSLEN : Hid (s.length = l.length) := hid (by rw [← hs_]; exact mseen_len _ _ _)
        clear hs_
        have HJ := hid (jumps_in h0)
        have HHI := hid (hd_all h1)
        have hl40 : l.length ≤ 40 := (right_of h0).2.2
        have HW3 := hid (show w.heap.size < w3.heap.size from Nat.lt_of_lt_of_le (Nat.lt_trans HBR.out.2 HBR.out.1) (Nat.le_trans hb2.size hb3.size))
        refine wp_region_ext [(3, sls s), (4, lefts w3 l s)] ⟨sls_stays _, lefts_stays _ _ _, trivial⟩ (by kernel_rfl) (by kernel_rfl) ?_
        refine wpG_calc 1 rfl rfl rfl (fun u => by go_simp; rfl) ?_
        simp only [Act.put, List.setIfInBounds_toArray, List.set_cons_zero, List.set_cons_succ]
        refine wpG_read 2 rfl rfl (.slice ac l.length cc) rfl ?_ ?_
        · intro u hu hh
          have hrow := (hu.block _ HW3.out).trans HBX3.out
          have hk6 : u.cell? ⟨w.heap.size, 6, none⟩ = some (.slice ac l.length cc) := by rw [cell_of_row _ _ _ _ _ _ hrow]; rfl
          go_simp
        simp only [Act.put, List.setIfInBounds_toArray, List.set_cons_zero, List.set_cons_succ]
        refine wpG_row 3 rfl rfl rfl 25 _ rfl w.heap.size rfl _ _ _ _ Tryd.underlying25 rfl (by kernel_rfl) (fun u hu => (hu.block _ HW3.out).trans HBX3.out) ?_
        simp only [Act.put, List.setIfInBounds_toArray, List.set_cons_zero, List.set_cons_succ]
        refine wpG_rel 4 rfl rfl rfl ?_ ?_
        · intro u hu hh
          go_simp
          refine (mreach_any nm ty st ab pr lo _ _ l hs u (hc.below (HB3.out.trans (hu.mono HB3.out.size))) (hv.below (HB3.out.trans (hu.mono HB3.out.size))) h0 HHI.out (by omega)).mono ?_
          rintro e w6 ⟨v6, rfl, ho6⟩
          exact ⟨_, rfl, by rw [HSE.out] at ho6; show Sl _ _ s.length 1 _; rw [HSLEN.out]; exact ho6.sl, ho6.below⟩
        intro v34 ⟨u34, _, hr34⟩
        obtain ⟨a34, c34, hv34⟩ := hr34.val
        subst hv34
        simp only [Act.put, List.setIfInBounds_toArray, List.set_cons_zero, List.set_cons_succ]
        refine wpG_rel 5 rfl rfl rfl ?_ ?_
        · intro u hu hh
          have hs3 : sls s (.slice a34 s.length c34) u := hh 3 rfl
          have HL := hid (left_any (.slice ac l.length cc) (.slice a34 s.length c34) l s u (hc.below (HB3.out.trans (hu.mono HB3.out.size))) hs3 HSLEN.out (by omega) HJ.out)
          clear hs3 hh
          go_simp
          refine HL.out.mono ?_
          rintro e w6 ⟨v6, v7, rfl, h6, h7⟩
          exact ⟨_, rfl, ⟨rfl, Out.since hu h6, Out.since hu h7⟩, h6.below⟩
        intro v35 ⟨u35, _, hr35⟩
        obtain ⟨hv35, h6, h7⟩ := hr35
        obtain ⟨a6, c6, hv6⟩ := h6.sl.val
        obtain ⟨a7, c7, hv7⟩ := h7.sl.val
        rw [hv6, hv7] at hv35
        clear h6 h7 hv6 hv7
        subst hv35
        simp only [Act.put, List.setIfInBounds_toArray, List.set_cons_zero, List.set_cons_succ]
        refine wpG_calc 6 rfl rfl rfl (fun u => by go_simp; rfl) ?_
        simp only [Act.put, List.setIfInBounds_toArray, List.set_cons_zero, List.set_cons_succ]
        refine wpG_calc 7 rfl rfl rfl (fun u => by go_simp; rfl) ?_
        simp only [Act.put, List.setIfInBounds_toArray, List.set_cons_zero, List.set_cons_succ]
        refine wpG_calc 8 rfl rfl rfl (fun u => by go_simp; rfl) ?_
        simp only [Act.put, List.setIfInBounds_toArray, List.set_cons_zero, List.set_cons_succ]
        refine wpG_calc 9 rfl rfl rfl (fun u => by go_simp; rfl) ?_
        simp only [Act.put, List.setIfInBounds_toArray, List.set_cons_zero, List.set_cons_succ]
        refine wpG_calc 10 rfl rfl rfl (fun u => by go_simp; rfl) ?_
        simp only [Act.put, List.setIfInBounds_toArray, List.set_cons_zero, List.set_cons_succ]
        refine wpG_nil fun w4 hb4 hF => ?_
        have hl4 : lefts w3 l s (.tuple #[.slice a6 (trimOf l s).length c6, .slice a7 (placesL l s).length c7]) w4 := hF 4
        clear hF
        obtain ⟨_, ho6, ho7⟩ := hl4
        have HO6 : Hid (Out w3 w4 33 6 (.slice a6 (trimOf l s).length c6) (trimOf l s).length (cellsOf (trimOf l s))) := hid ho6
        have HO7 : Hid (Out w3 w4 3 1 (.slice a7 (placesL l s).length c7) (placesL l s).length (nats (placesL l s))) := hid ho7
        clear ho6 ho7
        have HX4 := hid ((hb4.block _ HW3.out).trans HBX3.out)
        have HB4 := hid (HB3.out.trans (hb4.mono HB3.out.size))
        have HR4 := hid ((hb4.block _ (Nat.lt_of_lt_of_le HBR.out.1 (Nat.le_trans hb2.size hb3.size))).trans HR3.out)
        have HW4 := hid (Nat.lt_of_lt_of_le HW3.out hb4.size)
        have HBR3 : Hid (W0.heap.size < w3.heap.size) := hid (by have h1 := HBR.out.1; have h2 := hb2.size; have h3 := hb3.size; omega)
        have HLT0 : Hid (W0.heap.size < w4.heap.size ∧ w.heap.size < W0.heap.size) := hid ⟨by have h1 := HBR.out.1; have h2 := hb2.size; have h3 := hb3.size; have h4 := hb4.size; omega, HBR.out.2⟩
        have hk6 : w4.cell? ⟨w.heap.size, 6, none⟩ = some (.slice ac l.length cc) := by rw [cell_of_row _ _ _ _ _ _ HX4.out]; rfl
        have hk7 : w4.cell? ⟨w.heap.size, 7, none⟩ = some (.slice ah hs.length ch) := by rw [cell_of_row _ _ _ _ _ _ HX4.out]; rfl
        have hf6 : w4.frozen? ⟨w.heap.size, 6, none⟩ = false := frozen_of_row _ _ _ _ _ HX4.out
        have hf7 : w4.frozen? ⟨w.heap.size, 7, none⟩ = false := frozen_of_row _ _ _ _ _ HX4.out
        clear hm7 hW0 hW1 hm6
        obtain ⟨W5, hW5⟩ : ∃ W5, (w4.setCell ⟨w.heap.size, 6, none⟩ (.slice a6 (trimOf l s).length c6)).setCell ⟨w.heap.size, 7, none⟩ (.slice none 0 0) = W5 := ⟨_, rfl⟩
        have HK5 : Hid (Keeps (fun k => k = w.heap.size) w4 W5) := hid (by subst hW5; exact (Keeps.set w4 _ 6 _).trans (Keeps.set _ _ 7 _))
        have HX5 : Hid (W5.heap[w.heap.size]? = some (.cells #[.string nm, .string ty, .bool st, .bool ab, .bool pr, .int .i64 lo, .slice a6 (trimOf l s).length c6, .slice none 0 0] 25)) := hid (by subst hW5; exact heap_set (heap_set HX4.out 6 _) 7 _)
        have HS5 : Hid (W5.heap.size = w4.heap.size) := hid (by subst hW5; simp [World.setCell])
        have HT5 : Hid (TLoop W5 W5 w.heap.size (fun v => #[.string nm, .string ty, .bool st, .bool ab, .bool pr, .int .i64 lo, .slice a6 (trimOf l s).length c6, v]) (hdsTo l s hs 0)) := hid ⟨_, HX5.out, by rw [hdsTo_zero]; exact World.ownsRow_nil _ _ _ _, Keeps.refl _ _⟩
        have HB5 : Hid (Below w.heap.size w W5) := hid (Keeps.below HB4.out HB4.out.size HK5.out (fun k hk => by omega))
        have HP5 : Hid (Sl W5 (.slice a7 (placesL l s).length c7) (placesL l s).length 1 (nats (placesL l s))) := hid (sl_keeps HO7.out.sl HK5.out (fun k hk => by have := (HO7.out.own.lt k hk).1; have := HW3.out; omega))
        have HQ5 : Hid (∀ k, (Value.slice a7 (placesL l s).length c7).ownBlock = some k → k < W5.heap.size ∧ k ≠ w.heap.size) := hid (fun k hk => by have h1 := (HO7.out.own.lt k hk); have := HW3.out; rw [HS5.out]; omega)
        have hpl := placesL_len l s
        have HPL := hid hpl
        clear hpl
        go_wp2_with fail
        clear hk6 hk7 hf6 hf7 hW5
        go_loopw [45] (fun i wr => ∃ k : Nat, k ≤ hs.length ∧ i = .int .i64 k ∧ Hid (TLoop W5 wr w.heap.size (fun v => #[.string nm, .string ty, .bool st, .bool ab, .bool pr, .int .i64 lo, .slice a6 (trimOf l s).length c6, v]) (hdsTo l s hs k))) (fun i _ => hs.length - (intOf i).toNat)
        case atStart => exact ⟨0, Nat.zero_le _, rfl, HT5⟩
        case round =>
          obtain ⟨k, hk, rfl, HT⟩ := hrel
          clear HT5
          obtain ⟨v7, hrow, hown, hkp⟩ := HT.out
          have HROW := hid hrow
          have HOWN := hid hown
          have HKP := hid hkp
          have HBR : Hid (Below w.heap.size w wr) := hid (Keeps.below HB5.out HB5.out.size hkp (fun k hk => by omega))
          have HPR := hid (sl_keeps HP5.out hkp (fun k hk => (HQ5.out k hk).2))
          have HWR : Hid (w.heap.size < wr.heap.size) := hid (Nat.lt_of_lt_of_le HW4.out (by rw [← HS5.out]; exact hkp.size))
          obtain ⟨av, cv, hvv⟩ := (sl_of_owns hown).val
          subst hvv
          clear hrow hown hkp HT
          by_cases hlt : k < hs.length
          · obtain ⟨b, off, hab, hc0, hc1, hc2, hc3⟩ := hd_at (hv.below HBR.out) hlt
            have hi : (0 : Int) ≤ (k : Int) := by omega
            have hkl : (k : Int) < (hs.length : Int) := by omega
            obtain ⟨hat, hat0, hf0, hft, hto⟩ := in_at HHI.out (List.getElem_mem hlt)
            have HYES := hid (fun h => hdsTo_yes (l := l) (s := s) hlt h)
            have HNO := hid (fun h => hdsTo_no (l := l) (s := s) hlt h)
            have HLEN := hid (hdsTo_len l s hs k)
            subst hab
            generalize hs[k] = x at hc0 hc1 hc2 hc3 hat hat0 hf0 hft hto HYES HNO
            obtain ⟨fr, to, at_, cls⟩ := x
            simp only at hc0 hc1 hc2 hc3 hat hat0 hf0 hft hto
            obtain ⟨A, rfl⟩ : ∃ A : Nat, at_ = (A : Int) := ⟨at_.toNat, by omega⟩
            obtain ⟨G, rfl⟩ : ∃ G : Nat, fr = (G : Int) := ⟨fr.toNat, by omega⟩
            obtain ⟨T, rfl⟩ : ∃ T : Nat, to = (T : Int) := ⟨to.toNat, by omega⟩
            have hA : A < l.length := by omega
            have hG0 : (0 : Int) ≤ (G : Int) := by omega
            have hT0 : (0 : Int) ≤ (T : Int) := by omega
            have hA0 : (0 : Int) ≤ (A : Int) := by omega
            obtain ⟨W6, hW6⟩ : ∃ W6, wr.alloc (.cells #[.int .i64 (G : Int), .int .i64 (T : Int), .int .i64 (A : Int), .string cls] 35) = W6 := ⟨_, rfl⟩
            have HE6 : Hid (Below wr.heap.size wr W6) := hid (by subst hW6; exact ext_alloc _ _)
            obtain ⟨bp, op1, hap, hpG⟩ := ints_read (HPR.out.below HE6.out) (k := G) (by rw [HPL.out]; omega)
            subst hap
            obtain ⟨bp2, op2, hap2, hpT⟩ := ints_read (HPR.out.below HE6.out) (k := T) (by rw [HPL.out]; omega)
            simp only [Option.some.injEq, Addr.mk.injEq] at hap2
            obtain ⟨rfl, rfl, _⟩ := hap2
            obtain ⟨bp2, op2, hap2, hpA⟩ := ints_read (HPR.out.below HE6.out) (k := A) (by rw [HPL.out]; omega)
            simp only [Option.some.injEq, Addr.mk.injEq] at hap2
            obtain ⟨rfl, rfl, _⟩ := hap2
            rw [placesL_at] at hpG hpT hpA
            have hGx : (G : Int) < ((placesL l s).length : Int) := by rw [HPL.out]; omega
            have hTx : (T : Int) < ((placesL l s).length : Int) := by rw [HPL.out]; omega
            have hAx : (A : Int) < ((placesL l s).length : Int) := by rw [HPL.out]; omega
            have HROW6 := hid ((HE6.out.block _ HWR.out).trans HROW.out)
            have hr7 : W6.cell? ⟨w.heap.size, 7, none⟩ = some (.slice av (hdsTo l s hs k).length cv) := by rw [cell_of_row _ _ _ _ _ _ HROW6.out]; rfl
            have hr7f : W6.frozen? ⟨w.heap.size, 7, none⟩ = false := frozen_of_row _ _ _ _ _ HROW6.out
            have e0 : W6.cell? ⟨wr.heap.size, 0, none⟩ = some (.int .i64 (G : Int)) := by rw [← hW6, World.cell?_alloc_at _ _ _ _ rfl]; rfl
            have e1 : W6.cell? ⟨wr.heap.size, 1, none⟩ = some (.int .i64 (T : Int)) := by rw [← hW6, World.cell?_alloc_at _ _ _ _ rfl]; rfl
            have e2 : W6.cell? ⟨wr.heap.size, 2, none⟩ = some (.int .i64 (A : Int)) := by rw [← hW6, World.cell?_alloc_at _ _ _ _ rfl]; rfl
            have e3 : W6.cell? ⟨wr.heap.size, 3, none⟩ = some (.string cls) := by rw [← hW6, World.cell?_alloc_at _ _ _ _ rfl]; rfl
            have HMO : Hid (movedHd l s ⟨(G : Int), (T : Int), (A : Int), cls⟩ = ⟨(placeOf l s G : Int), (placeOf l s T : Int), (placeOf l s A : Int), cls⟩) := hid rfl
            have HKE : Hid (keptHd l s ⟨(G : Int), (T : Int), (A : Int), cls⟩ = decide (placeOf l s G < placeOf l s T)) := hid rfl
            generalize placeOf l s G = pG at hpG HMO HKE
            generalize placeOf l s T = pT at hpT HMO HKE
            generalize placeOf l s A = pA at hpA HMO
            generalize hdsTo l s hs k = H7 at *
            by_cases hkk : pG < pT
            · have hkk2 : (pG : Int) < (pT : Int) := by omega
              have HSUC : Hid (hdsTo l s hs (k + 1) = H7 ++ [⟨(pG : Int), (pT : Int), (pA : Int), cls⟩]) := hid (by rw [HYES.out (by rw [HKE.out]; exact decide_eq_true hkk), HMO.out])
              go_wp2_with fail
              go_quiet (fail)
              obtain ⟨Wd, hWd⟩ : ∃ Wd, W6.drewN nq = Wd := ⟨_, rfl⟩
              have HBD : Hid (Below W6.heap.size W6 Wd) := hid (by rw [← hWd]; exact below_drewN (Below.refl _ _) nq)
              rw [hWd]
              clear hWd
              go_wp2_with fail
              replace hr7 : Wd.cell? ⟨w.heap.size, 7, none⟩ = some (.slice av H7.length cv) := by rw [HBD.out.cell (World.block_lt_of_cell? _ _ hr7)]; exact hr7
              replace e0 : Wd.cell? ⟨wr.heap.size, 0, none⟩ = some (.int .i64 (G : Int)) := by rw [HBD.out.cell (World.block_lt_of_cell? _ _ e0)]; exact e0
              replace e1 : Wd.cell? ⟨wr.heap.size, 1, none⟩ = some (.int .i64 (T : Int)) := by rw [HBD.out.cell (World.block_lt_of_cell? _ _ e1)]; exact e1
              replace e2 : Wd.cell? ⟨wr.heap.size, 2, none⟩ = some (.int .i64 (A : Int)) := by rw [HBD.out.cell (World.block_lt_of_cell? _ _ e2)]; exact e2
              replace e3 : Wd.cell? ⟨wr.heap.size, 3, none⟩ = some (.string cls) := by rw [HBD.out.cell (World.block_lt_of_cell? _ _ e3)]; exact e3
              replace hpG : Wd.cell? ⟨bp, op1 + G, none⟩ = some (.int .i64 (pG : Int)) := by rw [HBD.out.cell (World.block_lt_of_cell? _ _ hpG)]; exact hpG
              replace hpT : Wd.cell? ⟨bp, op1 + T, none⟩ = some (.int .i64 (pT : Int)) := by rw [HBD.out.cell (World.block_lt_of_cell? _ _ hpT)]; exact hpT
              replace hpA : Wd.cell? ⟨bp, op1 + A, none⟩ = some (.int .i64 (pA : Int)) := by rw [HBD.out.cell (World.block_lt_of_cell? _ _ hpA)]; exact hpA
              refine wp_region_ext_tail 21 [(20, oneHd ⟨(pG : Int), (pT : Int), (pA : Int), cls⟩)] ⟨oneHd_stays _, trivial⟩ (by kernel_rfl) (by kernel_rfl) ?_
              refine wpG_calc 1 rfl rfl rfl (fun u => by go_simp; rfl) ?_
              simp only [Act.put, List.setIfInBounds_toArray, List.set_cons_zero, List.set_cons_succ]
              refine wpG_read 2 rfl rfl (.slice av H7.length cv) rfl ?_ ?_
              · intro u hu hh
                have hx : u.cell? ⟨w.heap.size, 7, none⟩ = some (.slice av H7.length cv) := by rw [hu.cell (World.block_lt_of_cell? _ _ hr7)]; exact hr7
                go_simp
              simp only [Act.put, List.setIfInBounds_toArray, List.set_cons_zero, List.set_cons_succ]
              refine wpG_calc 3 rfl rfl rfl (fun u => by go_simp; rfl) ?_
              simp only [Act.put, List.setIfInBounds_toArray, List.set_cons_zero, List.set_cons_succ]
              refine wpG_calc 4 rfl rfl rfl (fun u => by go_simp; rfl) ?_
              simp only [Act.put, List.setIfInBounds_toArray, List.set_cons_zero, List.set_cons_succ]
              refine wpG_read 5 rfl rfl (.int .i64 (G : Int)) rfl ?_ ?_
              · intro u hu hh
                have hx : u.cell? ⟨wr.heap.size, 0, none⟩ = some (.int .i64 (G : Int)) := by rw [hu.cell (World.block_lt_of_cell? _ _ e0)]; exact e0
                go_simp
              simp only [Act.put, List.setIfInBounds_toArray, List.set_cons_zero, List.set_cons_succ]
              refine wpG_calc 6 rfl rfl rfl (fun u => by go_simp; rfl) ?_
              simp only [Act.put, List.setIfInBounds_toArray, List.set_cons_zero, List.set_cons_succ]
              refine wpG_read 7 rfl rfl (.int .i64 (pG : Int)) rfl ?_ ?_
              · intro u hu hh
                have hx : u.cell? ⟨bp, op1 + G, none⟩ = some (.int .i64 (pG : Int)) := by rw [hu.cell (World.block_lt_of_cell? _ _ hpG)]; exact hpG
                go_simp
              simp only [Act.put, List.setIfInBounds_toArray, List.set_cons_zero, List.set_cons_succ]
              refine wpG_calc 8 rfl rfl rfl (fun u => by go_simp; rfl) ?_
              simp only [Act.put, List.setIfInBounds_toArray, List.set_cons_zero, List.set_cons_succ]
              refine wpG_calc 9 rfl rfl rfl (fun u => by go_simp; rfl) ?_
              simp only [Act.put, List.setIfInBounds_toArray, List.set_cons_zero, List.set_cons_succ]
              refine wpG_read 10 rfl rfl (.int .i64 (T : Int)) rfl ?_ ?_
              · intro u hu hh
                have hx : u.cell? ⟨wr.heap.size, 1, none⟩ = some (.int .i64 (T : Int)) := by rw [hu.cell (World.block_lt_of_cell? _ _ e1)]; exact e1
                go_simp
              simp only [Act.put, List.setIfInBounds_toArray, List.set_cons_zero, List.set_cons_succ]
              refine wpG_calc 11 rfl rfl rfl (fun u => by go_simp; rfl) ?_
              simp only [Act.put, List.setIfInBounds_toArray, List.set_cons_zero, List.set_cons_succ]
              refine wpG_read 12 rfl rfl (.int .i64 (pT : Int)) rfl ?_ ?_
              · intro u hu hh
                have hx : u.cell? ⟨bp, op1 + T, none⟩ = some (.int .i64 (pT : Int)) := by rw [hu.cell (World.block_lt_of_cell? _ _ hpT)]; exact hpT
                go_simp
              simp only [Act.put, List.setIfInBounds_toArray, List.set_cons_zero, List.set_cons_succ]
              refine wpG_calc 13 rfl rfl rfl (fun u => by go_simp; rfl) ?_
              simp only [Act.put, List.setIfInBounds_toArray, List.set_cons_zero, List.set_cons_succ]
              refine wpG_calc 14 rfl rfl rfl (fun u => by go_simp; rfl) ?_
              simp only [Act.put, List.setIfInBounds_toArray, List.set_cons_zero, List.set_cons_succ]
              refine wpG_read 15 rfl rfl (.int .i64 (A : Int)) rfl ?_ ?_
              · intro u hu hh
                have hx : u.cell? ⟨wr.heap.size, 2, none⟩ = some (.int .i64 (A : Int)) := by rw [hu.cell (World.block_lt_of_cell? _ _ e2)]; exact e2
                go_simp
              simp only [Act.put, List.setIfInBounds_toArray, List.set_cons_zero, List.set_cons_succ]
              refine wpG_calc 16 rfl rfl rfl (fun u => by go_simp; rfl) ?_
              simp only [Act.put, List.setIfInBounds_toArray, List.set_cons_zero, List.set_cons_succ]
              refine wpG_read 17 rfl rfl (.int .i64 (pA : Int)) rfl ?_ ?_
              · intro u hu hh
                have hx : u.cell? ⟨bp, op1 + A, none⟩ = some (.int .i64 (pA : Int)) := by rw [hu.cell (World.block_lt_of_cell? _ _ hpA)]; exact hpA
                go_simp
              simp only [Act.put, List.setIfInBounds_toArray, List.set_cons_zero, List.set_cons_succ]
              refine wpG_calc 18 rfl rfl rfl (fun u => by go_simp; rfl) ?_
              simp only [Act.put, List.setIfInBounds_toArray, List.set_cons_zero, List.set_cons_succ]
              refine wpG_read 19 rfl rfl (.string cls) rfl ?_ ?_
              · intro u hu hh
                have hx : u.cell? ⟨wr.heap.size, 3, none⟩ = some (.string cls) := by rw [hu.cell (World.block_lt_of_cell? _ _ e3)]; exact e3
                go_simp
              simp only [Act.put, List.setIfInBounds_toArray, List.set_cons_zero, List.set_cons_succ]
              refine wpG_calc 20 rfl rfl rfl (fun u => by go_simp; rfl) ?_
              simp only [Act.put, List.setIfInBounds_toArray, List.set_cons_zero, List.set_cons_succ]
              refine wpG_rel 21 rfl rfl rfl ?_ ?_
              · intro u hu hh
                clear hh
                go_simp
                exact ⟨Sl.lit u #[.int .i64 (pG : Int), .int .i64 (pT : Int), .int .i64 (pA : Int), .string cls] 35 1 4 rfl, ext_alloc _ _⟩
              intro v21 ⟨u21, _, hr21⟩
              obtain ⟨a21, c21, hv21⟩ := Sl.val hr21
              clear hr21
              subst hv21
              simp only [Act.put, List.setIfInBounds_toArray, List.set_cons_zero, List.set_cons_succ]
              refine wpG_nil fun w7 hb7 hF => ?_
              have hone : oneHd ⟨(pG : Int), (pT : Int), (pA : Int), cls⟩ (.slice a21 1 c21) w7 := hF 20
              have HONE := hid hone
              clear hF hone
              have HB7 : Hid (Below wr.heap.size wr w7) := hid ((HE6.out.trans (HBD.out.mono HE6.out.size)).trans (hb7.mono (Nat.le_trans HE6.out.size HBD.out.size)))
              obtain ⟨w0, hw0, ho0⟩ := out_of HOWN.out HKP.out.size
              have HOW := hid (ho0.later HB7.out)
              have HW0 := hid hw0
              clear ho0 hw0 hb7 hr7 e0 e1 e2 e3 hpG hpT hpA
              have hl8 := HLEN.out
              have O1 := hid (show ∀ u ∈ (Hd.cells ⟨(pG : Int), (pT : Int), (pA : Int), cls⟩), u.oneCell' = true from fun u hu => by simp [Hd.cells] at hu; rcases hu with rfl | rfl | rfl | rfl <;> rfl)
              have HSRC : Hid (Sl w7 (.slice a21 1 c21) 1 4 (Hd.cells ⟨(pG : Int), (pT : Int), (pA : Int), cls⟩)) := hid HONE.out
              refine wpList_append_src_at w0 w7 rfl (.tmp 61) (.tmp 80) 23 rfl 35 (.agg #[.int .i64 0, .int .i64 0, .int .i64 0, .string { data := #[] }]) 4 40 1 Tryd.underlying23 infoHd rfl (by decide) (.slice av H7.length cv) H7.length (hcells H7) HOW.out rfl (.slice a21 1 c21) _ HSRC.out rfl O1.out ?_ ?_ ?_
              all_goals first | (intro v8 w8 ho8 hg8 _) | omega | skip
              have HOG := hid (fun k' hk' => (HOWN.out.lt k' hk').1)
              have hgb : ∀ k', (Value.slice av H7.length cv).ownBlock = some k' → k' ≠ w.heap.size := fun k' hk' => by have h1 := HOG.out k' hk'; have h2 := HS5.out; have h3 := HW4.out; omega
              have HR8 : Hid (w8.heap[w.heap.size]? = some (.cells #[.string nm, .string ty, .bool st, .bool ab, .bool pr, .int .i64 lo, .slice a6 (trimOf l s).length c6, .slice av H7.length cv] 25)) := hid ((hg8.block _ (Nat.lt_of_lt_of_le HWR.out HB7.out.size) (fun e => hgb _ e.symm rfl)).trans ((HB7.out.block _ HWR.out).trans HROW.out))
              have q7 : w8.cell? ⟨w.heap.size, 7, none⟩ = some (.slice av H7.length cv) := by rw [cell_of_row _ _ _ _ _ _ HR8.out]; rfl
              have q7f : w8.frozen? ⟨w.heap.size, 7, none⟩ = false := frozen_of_row _ _ _ _ _ HR8.out
              obtain ⟨a8, c8, hv8⟩ := ho8.sl.val
              subst hv8
              have HTL : Hid (TLoop W5 (w8.setCell ⟨w.heap.size, 7, none⟩ (.slice a8 (H7.length + 1) c8)) w.heap.size (fun v => #[.string nm, .string ty, .bool st, .bool ab, .bool pr, .int .i64 lo, .slice a6 (trimOf l s).length c6, v]) (hdsTo l s hs (k + 1))) := hid (by
                rw [HSUC.out]
                have hown8 := ho8.own
                rw [HW0.out] at hown8
                refine ⟨_, heap_set HR8.out 7 _, ?_, ?_⟩
                · rw [hcells_snoc, List.length_append]
                  exact owns_set hown8 (fun k' hk' => by have h1 := (hown8.lt k' hk').1; have h2 := HS5.out; have h3 := HW4.out; omega)
                · exact ((HKP.out.then (Keeps.of_below (F := fun _ => False) HB7.out) (fun _ _ h => h.elim)).then (Keeps.grown hg8) (fun k' hk' e => by have h1 := HOG.out k' e.symm; omega)).then (Keeps.set w8 _ 7 _) (fun _ _ h => h))
              clear hgb hg8 ho8
              go_wp2_with fail
              go_roundw
              case rel => exact ⟨k + 1, by omega, by go_num, HTL⟩
              case measure => simp [intOf]; omega
            · have hkk2 : ¬ (pG : Int) < (pT : Int) := by omega
              have HSUC : Hid (hdsTo l s hs (k + 1) = H7) := hid (HNO.out (by rw [HKE.out]; simp; omega))
              go_wp2_with fail
              go_quiet (fail)
              have HTN : Hid (TLoop W5 (W6.drewN nq) w.heap.size (fun v => #[.string nm, .string ty, .bool st, .bool ab, .bool pr, .int .i64 lo, .slice a6 (trimOf l s).length c6, v]) (hdsTo l s hs (k + 1))) := hid (by
                rw [HSUC.out]; exact TLoop.later HROW.out HOWN.out HKP.out HWR.out (HE6.out.trans ((below_drewN (Below.refl _ _) nq).mono HE6.out.size)))
              go_wp2_with fail
              go_roundw
              case rel => exact ⟨k + 1, by omega, by go_num, HTN⟩
              case measure => simp [intOf]; omega
          · obtain rfl : k = hs.length := by omega
            have hge : ¬ (hs.length : Int) < (hs.length : Int) := by omega
            have HRr := hid ((HKP.out.block _ (by have h1 := HLT0.out; have h2 := HS5.out; omega) (by have := HLT0.out; omega)).trans ((HK5.out.block _ HLT0.out.1 (by have := HLT0.out; omega)).trans HR4.out))
            go_wp2_with (first
              | refine wpList_load_row rfl 25 (.tmp 1) rfl w.heap.size rfl _ _ _ _ HROW.out Tryd.underlying25 rfl (by kernel_rfl) ?_
              | refine wpList_store_row rfl 25 (.tmp 2) (.tmp 84) rfl W0.heap.size _ rfl rfl 25 _ HRr.out (by kernel_rfl) rfl (by simp [Value.oneCell']) ?_)
            refine bodyPost_ret (results_cell_at rfl _ _ W0.heap.size _ _ _ _ rfl (setRow_heap _ _ _ _ _ _ HRr.out) Tryd.underlying25 rfl (by kernel_rfl)) rfl ?_
            have hts : tmFault l hs = 0 := ht.trans h1
            have hn6 : ∀ k', (Value.slice a6 (trimOf l s).length c6).ownBlock = some k' → w3.heap.size ≤ k' := fun k' hk' => (HO6.out.own.lt k' hk').1
            have hlt3 : W0.heap.size < w3.heap.size := by have h4 := HBR3.out; omega
            refine ⟨⟨nm, ty, st, ab, pr, lo, .slice a6 (trimOf l s).length c6, .slice av (hdsTo l s hs hs.length).length cv, trimOf l s, hdsTo l s hs hs.length⟩, ?_, ⟨⟨?_, ?_⟩, fun _ => ⟨rfl, rfl, rfl, rfl, rfl, rfl, ?_, ?_⟩, fun hz => absurd hts hz⟩, below_setRow HBR.out (Nat.le_of_lt HLT0.out.2) _⟩
            · rfl
            · exact owns_keeps (B := w3.heap.size) (owns_keeps (B := w3.heap.size) (owns_keeps HO6.out.own HK5.out (fun k' hk' => by have h5 := hn6 k' hk'; have h6 := HW3.out; omega) (Nat.le_refl _)) HKP.out (fun k' hk' => by have h5 := hn6 k' hk'; have h6 := HW3.out; omega) (Nat.le_refl _)) (keeps_row _ _ _) (fun k' hk' => by have h5 := hn6 k' hk'; omega) (Nat.le_of_lt HW3.out)
            · exact owns_keeps HOWN.out (keeps_row _ _ _) (fun k' hk' => by have h5 := (HOWN.out.lt k' hk').1; have h6 := HLT0.out.1; have h7 := HS5.out; omega) (by have h6 := HW4.out; have h7 := HS5.out; omega)
            · rw [HSE.out]
            · rw [HSE.out]
      · rw [show errVal (hdFault l.length hs) = .iface 38 (.int .i64 (hdFault l.length hs)) from by unfold errVal; rw [if_neg h1]]
        go_wp2_with (refine wpList_store_row rfl 25 (.tmp 2) (.tmp 28) rfl W0.heap.size _ rfl rfl 25 _ HR3.out (by kernel_rfl) rfl (by simp [Value.oneCell']) ?_)
        refine bodyPost_ret (results_cell_at rfl _ _ W0.heap.size _ _ _ _ rfl (setRow_heap _ _ _ _ _ _ HR3.out) Tryd.underlying25 rfl (by kernel_rfl)) rfl ?_
        refine ⟨⟨.empty, .empty, false, false, false, 0, .slice none 0 0, .slice none 0 0, [], []⟩, ?_, TrimmedM.none ?_, below_setRow HB3.out (Nat.le_of_lt HBR.out.2) _⟩
        · rw [ht]; unfold errVal; rw [if_neg h1]; rfl
        · show tmFault l hs ≠ 0
          rw [ht]; exact h1
  · rw [show errVal (codeFault l) = .iface 38 (.int .i64 (codeFault l)) from by unfold errVal; rw [if_neg h0]]
    have HR2 := hid ((hb2.block _ HBR.out.1).trans HRS.out)
    have HB2 := hid (HBD.out.trans (hb2.mono HBD.out.size))
    go_wp2_with ((refine wpList_store_row rfl 25 (.tmp 2) (.tmp 16) rfl W0.heap.size _ rfl rfl 25 _ HR2.out (by kernel_rfl) rfl (by simp [Value.oneCell']) ?_))
    refine bodyPost_ret (results_cell_at rfl _ _ W0.heap.size _ _ _ _ rfl (setRow_heap _ _ _ _ _ _ HR2.out) Tryd.underlying25 rfl (by kernel_rfl)) rfl ?_
    refine ⟨⟨.empty, .empty, false, false, false, 0, .slice none 0 0, .slice none 0 0, [], []⟩, ?_, TrimmedM.none ?_, below_setRow HB2.out (Nat.le_of_lt HBR.out.2) _⟩
    · rw [show tmFault l hs = codeFault l from by unfold tmFault; rw [if_pos h0]]
      unfold errVal; rw [if_neg h0]; rfl
    · show tmFault l hs ≠ 0
      unfold tmFault; rw [if_pos h0]; exact h0
end Go.Proofs.YtklebfkbildifaaDoor.trims
