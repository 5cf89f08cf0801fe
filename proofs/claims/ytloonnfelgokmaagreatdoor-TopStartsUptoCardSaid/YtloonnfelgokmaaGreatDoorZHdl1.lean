/- Handlers of a method: lists of them in memory. No condition. -/
import Derived.Test.YtloonnfelgokmaaGreatDoorZFlowZ
set_option maxRecDepth 100000
set_option maxHeartbeats 16000000
set_option linter.unusedSimpArgs false
set_option linter.unusedVariables false
namespace Go.Proofs.YtloonnfelgokmaaGreatDoor.hdls
open Go.RowKit lib errs names descs
structure Hd where
 fr : Int
 til : Int
 at_ : Int
 cls : ByteArray
def Hd.cells (x : Hd) : List Value := [.int .i64 x.fr, .int .i64 x.til, .int .i64 x.at_, .string x.cls]
abbrev hcells (l : List Hd) : List Value := l.flatMap Hd.cells
theorem hcells_len (l : List Hd) : (hcells l).length = l.length * 4 := by
 induction l with
 | nil => rfl
 | cons x l ih => rw [hcells, List.flatMap_cons, List.length_append, List.length_cons]; rw [hcells] at ih; rw [ih]; show 4 + _ = _; omega
theorem hcells_at : ∀ (l : List Hd) (k j : Nat) (hk : k < l.length), j < 4 → (hcells l)[k * 4 + j]? = l[k].cells[j]?
 | x :: l, 0, j, _, hj => by
  rw [hcells, List.flatMap_cons, List.getElem?_append_left (by show 0 * 4 + j < 4; omega), Nat.zero_mul, Nat.zero_add]; rfl
 | x :: l, k + 1, j, hk, hj => by
  rw [hcells, List.flatMap_cons, List.getElem?_append_right (by show 4 ≤ (k + 1) * 4 + j; omega)]
  have := hcells_at l k j (by simpa using hk) hj
  rw [hcells] at this
  rw [show (k + 1) * 4 + j - x.cells.length = k * 4 + j from by show (k + 1) * 4 + j - 4 = _; omega, this]
  simp
abbrev Hds (w : World) (v : Value) (l : List Hd) : Prop := Sl w v l.length 4 (hcells l)
theorem hd_at {w : World} {a : Option Addr} {n c : Nat} {l : List Hd} (h : Hds w (.slice a n c) l) {k : Nat} (hk : k < l.length) :
  ∃ b off, a = some ⟨b, off, none⟩ ∧ w.cell? ⟨b, off + k * 4, none⟩ = some (.int .i64 l[k].fr) ∧ w.cell? ⟨b, off + k * 4 + 1, none⟩ = some (.int .i64 l[k].til) ∧ w.cell? ⟨b, off + k * 4 + 2, none⟩ = some (.int .i64 l[k].at_) ∧ w.cell? ⟨b, off + k * 4 + 3, none⟩ = some (.string l[k].cls) := by
 obtain ⟨_, a', c', he, _, h⟩ := h
 simp only [Value.slice.injEq] at he
 obtain ⟨rfl, _, _⟩ := he
 rcases h with h | ⟨b, off, rfl, h⟩
 ·have := hcells_len l
  rw [h] at this
  simp at this; omega
 ·have key : ∀ j, j < 4 → ∀ u, l[k].cells[j]? = some u → w.cell? ⟨b, off + k * 4 + j, none⟩ = some u := fun j hj u hu => by
   rw [Nat.add_assoc]
   exact h _ u (by rw [hcells_at l k j hk hj]; exact hu)
  exact ⟨b, off, rfl, key 0 (by decide) _ rfl, key 1 (by decide) _ rfl, key 2 (by decide) _ rfl, key 3 (by decide) _ rfl⟩
open Go.RowKit lib errs names descs ins flows
def hdIn (n : Nat) (h : Hd) : Bool := decide (0 ≤ h.fr ∧ h.fr < h.til ∧ h.til ≤ (n : Int) ∧ 0 ≤ h.at_ ∧ h.at_ < (n : Int))
def hdBad (n : Nat) : List Hd → Int
 | [] => 0
 | h :: r => if hdIn n h = false then 2 else if nameOk h.cls.data.toList = false then 1 else hdBad n r
def hdFault (n : Nat) (l : List Hd) : Int := if hdBad n l ≠ 0 then hdBad n l else if 8 < l.length then 4 else 0
theorem hd_range {n : Nat} {l : List Hd} {k : Nat} (hk : k < l.length) (h : hdIn n l[k] = false) : hdBad n (l.drop k) = 2 := by rw [List.drop_eq_getElem_cons hk, hdBad, if_pos h]
theorem hd_name {n : Nat} {l : List Hd} {k : Nat} (hk : k < l.length) (h : hdIn n l[k] = true) (h2 : nameOk l[k].cls.data.toList = false) : hdBad n (l.drop k) = 1 := by rw [List.drop_eq_getElem_cons hk, hdBad, if_neg (by rw [h]; decide), if_pos h2]
theorem hd_step {n : Nat} {l : List Hd} {k : Nat} (hk : k < l.length) (h : hdIn n l[k] = true) (h2 : nameOk l[k].cls.data.toList = true) : hdBad n (l.drop k) = hdBad n (l.drop (k + 1)) := by rw [List.drop_eq_getElem_cons hk, hdBad, if_neg (by rw [h]; decide), if_neg (by rw [h2]; decide)]
theorem hd_end {n : Nat} {l : List Hd} {k : Nat} (hk : ¬ k < l.length) : hdBad n (l.drop k) = 0 := by rw [List.drop_eq_nil_of_le (by omega)]; rfl
theorem handlers_any (nm ty : ByteArray) (st ab pr : Bool) (lo : Int) (ac : Option Addr) (n cc : Nat) (vh : Value) (l : List Hd) (w : World) (hv : Hds w vh l) (hs : ∀ h ∈ l, h.cls.size ≤ 9223372036854775807) (hn : l.length ≤ 1000000000000) :
  Calls Tryz.prog 33 #[.agg #[.string nm, .string ty, .bool st, .bool ab, .bool pr, .int .i64 lo, .slice ac n cc, vh]] w fun e w' => e = .returned (errVal (hdFault n l)) ∧ Below w.heap.size w w' := by
 obtain ⟨a, c, rfl⟩ := hv.val
 have HV := hid hv; have HS := hid hs
 have HB := hid (ext_alloc w (.cells #[.string nm, .string ty, .bool st, .bool ab, .bool pr, .int .i64 lo, .slice ac n cc, .slice a l.length c] 44))
 have HBX : Hid ((w.alloc (.cells #[.string nm, .string ty, .bool st, .bool ab, .bool pr, .int .i64 lo, .slice ac n cc, .slice a l.length c] 44)).cell? ⟨w.heap.size, 6, none⟩ = some (.slice ac n cc) ∧ (w.alloc (.cells #[.string nm, .string ty, .bool st, .bool ab, .bool pr, .int .i64 lo, .slice ac n cc, .slice a l.length c] 44)).cell? ⟨w.heap.size, 7, none⟩ = some (.slice a l.length c)) := hid ⟨by rw [World.cell?_alloc_at _ _ _ _ rfl]; rfl, by rw [World.cell?_alloc_at _ _ _ _ rfl]; rfl⟩
 clear hv hs
 go_enter Tryz.func33, Tryz.ntmps33
 go_wp2_with fail
 go_loopw [8] (fun i wr => ∃ k : Nat, k ≤ l.length ∧ i = .int .i64 k ∧ Hid (Below (w.alloc (.cells #[.string nm, .string ty, .bool st, .bool ab, .bool pr, .int .i64 lo, .slice ac n cc, .slice a l.length c] 44)).heap.size (w.alloc (.cells #[.string nm, .string ty, .bool st, .bool ab, .bool pr, .int .i64 lo, .slice ac n cc, .slice a l.length c] 44)) wr) ∧ Hid (hdBad n l = hdBad n (l.drop k))) (fun i _ => l.length - (intOf i).toNat)
 case atStart => exact ⟨0, Nat.zero_le _, rfl, hid (Below.refl _ _), hid rfl⟩
 case round =>
  obtain ⟨k, hk, rfl, HR, HP⟩ := hrel
  have HBR := hid (HB.out.trans (HR.out.mono HB.out.size))
  by_cases hlt : k < l.length
  ·obtain ⟨b, off, hab, hc0, hc1, hc2, hc3⟩ := hd_at (HV.out.below HBR.out) hlt
   subst hab
   have hi : (0 : Int) ≤ (k : Int) := by omega
   have hkl : (k : Int) < (l.length : Int) := by omega
   have hsz := HS.out _ (List.getElem_mem hlt)
   have HRG := hid (fun h => hd_range (n := n) hlt h)
   have HNM := hid (fun h h2 => hd_name (n := n) hlt h h2)
   have HST := hid (fun h h2 => hd_step (n := n) hlt h h2)
   generalize l[k] = x at hc0 hc1 hc2 hc3 hsz HRG HNM HST
   obtain ⟨fr, til, at_, cls⟩ := x
   have HE := hid (ext_alloc wr (.cells #[.int .i64 fr, .int .i64 til, .int .i64 at_, .string cls] 94))
   have HB2 := hid (HBR.out.trans (HE.out.mono HBR.out.size))
   have hm6 : (wr.alloc (.cells #[.int .i64 fr, .int .i64 til, .int .i64 at_, .string cls] 94)).cell? ⟨w.heap.size, 6, none⟩ = some (.slice ac n cc) := by
    rw [(HR.out.trans (HE.out.mono HR.out.size)).cell (World.block_lt_of_cell? _ _ HBX.out.1)]; exact HBX.out.1
   by_cases h0 : fr < 0
   ·have HF : Hid (hdFault n l = 2) := hid (by unfold hdFault; rw [HP.out, HRG.out (by unfold hdIn; simp; omega)]; rfl)
    go_wp2
    go_ret
    rw [HF.out]
    exact ⟨rfl, HB2.out⟩
   by_cases h1 : til ≤ fr
   ·have HF : Hid (hdFault n l = 2) := hid (by unfold hdFault; rw [HP.out, HRG.out (by unfold hdIn; simp; omega)]; rfl)
    go_wp2
    go_ret
    rw [HF.out]
    exact ⟨rfl, HB2.out⟩
   by_cases h2 : (n : Int) < til
   ·have HF : Hid (hdFault n l = 2) := hid (by unfold hdFault; rw [HP.out, HRG.out (by unfold hdIn; simp; omega)]; rfl)
    go_wp2
    go_ret
    rw [HF.out]
    exact ⟨rfl, HB2.out⟩
   by_cases h3 : at_ < 0
   ·have HF : Hid (hdFault n l = 2) := hid (by unfold hdFault; rw [HP.out, HRG.out (by unfold hdIn; simp; omega)]; rfl)
    go_wp2
    go_ret
    rw [HF.out]
    exact ⟨rfl, HB2.out⟩
   by_cases h4 : (n : Int) ≤ at_
   ·have HF : Hid (hdFault n l = 2) := hid (by unfold hdFault; rw [HP.out, HRG.out (by unfold hdIn; simp; omega)]; rfl)
    go_wp2
    go_ret
    rw [HF.out]
    exact ⟨rfl, HB2.out⟩
   have HIN : Hid (hdIn n ⟨fr, til, at_, cls⟩ = true) := hid (by unfold hdIn; simp; omega)
   cases hN : nameOk cls.data.toList with
   | false =>
    have HF : Hid (hdFault n l = 1) := hid (by unfold hdFault; rw [HP.out, HNM.out HIN.out hN]; rfl)
    have HN := hid hN
    clear hN
    go_wp2_with fail
    refine (check_any cls _ hsz).mono ?_
    intro e w2 h2'
    obtain ⟨rfl, hb2⟩ := checked_false h2' HN.out
    clear h2'
    go_wp2
    go_ret
    rw [HF.out]
    exact ⟨rfl, HB2.out.trans (hb2.mono HB2.out.size)⟩
   | true =>
    have HPN := hid (HP.out.trans (HST.out HIN.out hN))
    have HN := hid hN
    clear hN
    go_wp2_with fail
    refine (check_any cls _ hsz).mono ?_
    intro e w2 h2'
    obtain ⟨rfl, hb2⟩ := checked_true h2' HN.out
    have HR2 := hid ((HR.out.trans (HE.out.mono HR.out.size)).trans (hb2.mono (HR.out.trans (HE.out.mono HR.out.size)).size))
    clear h2' hb2
    go_wp2
    go_roundw
    case rel => exact ⟨k + 1, by omega, by go_num, HR2, HPN⟩
    case measure => simp [intOf]; omega
  ·have HZ : Hid (hdBad n l = 0) := hid (HP.out.trans (hd_end hlt))
   have hm7 : wr.cell? ⟨w.heap.size, 7, none⟩ = some (.slice a l.length c) := by
    rw [HR.out.cell (World.block_lt_of_cell? _ _ HBX.out.2)]; exact HBX.out.2
   by_cases h8 : 8 < l.length
   ·have HF : Hid (hdFault n l = 4) := hid (by unfold hdFault; rw [HZ.out, if_neg (by decide), if_pos h8])
    have h8i : (8 : Int) < (l.length : Int) := by omega
    clear h8
    go_wp2
    go_ret
    rw [HF.out]
    exact ⟨rfl, HBR.out⟩
   ·have HF : Hid (hdFault n l = 0) := hid (by unfold hdFault; rw [HZ.out, if_neg (by decide), if_neg h8])
    have h8i : ¬ (8 : Int) < (l.length : Int) := by omega
    clear h8
    go_wp2
    go_ret
    rw [HF.out]
    exact ⟨rfl, HBR.out⟩
end Go.Proofs.YtloonnfelgokmaaGreatDoor.hdls
