/- Names: what name.Check and the reference's IsName compute, for every string. No condition. -/
import Derived.Test.YtloonnfelgokmaaGreatDoorZErrV
import Derived.Test.YtloonnfelgokmaaGreatDoorZShelf
import Derived.Shelf.Strings.SlTrimAscii
set_option maxRecDepth 100000
set_option maxHeartbeats 16000000
set_option linter.unusedSimpArgs false
set_option linter.unusedVariables false
namespace Go.Proofs.YtloonnfelgokmaaGreatDoor.names
open Go.RowKit lib errs
def letterB (c : UInt8) : Bool := decide (97 ≤ c.toNat ∧ c.toNat ≤ 122) || decide (65 ≤ c.toNat ∧ c.toNat ≤ 90) || decide (c.toNat = 95)
def digitB (c : UInt8) : Bool := decide (48 ≤ c.toNat ∧ c.toNat ≤ 57)
def nameOk (l : List UInt8) : Bool := decide (l ≠ []) && decide (l.length ≤ 20) && l.all (fun c => letterB c || digitB c) && !(l.head?.any digitB)
def cutL : List UInt8 := [97, 98, 99, 100, 101, 102, 103, 104, 105, 106, 107, 108, 109, 110, 111, 112, 113, 114, 115, 116, 117, 118, 119, 120, 121, 122, 65, 66, 67, 68, 69, 70, 71, 72, 73, 74, 75, 76, 77, 78, 79, 80, 81, 82, 83, 84, 85, 86, 87, 88, 89, 90, 95, 48, 49, 50, 51, 52, 53, 54, 55, 56, 57]
def digL : List UInt8 := [48, 49, 50, 51, 52, 53, 54, 55, 56, 57]
theorem cut_is (c : UInt8) : cutL.contains c = (letterB c || digitB c) := by
 have h : (List.range 256).all (fun n => cutL.contains (UInt8.ofNat n) == (letterB (UInt8.ofNat n) || digitB (UInt8.ofNat n))) = true := by decide +kernel
 have h1 := List.all_eq_true.1 h c.toNat (List.mem_range.2 c.toNat_lt)
 simpa using h1
theorem dig_is (c : UInt8) : decide (0 ≤ Lib.indexByte digL c) = digitB c := by
 have h : (List.range 256).all (fun n => decide (0 ≤ Lib.indexByte digL (UInt8.ofNat n)) == digitB (UInt8.ofNat n)) = true := by decide +kernel
 have h1 := List.all_eq_true.1 h c.toNat (List.mem_range.2 c.toNat_lt)
 simpa using h1
theorem dropWhile_nil {α : Type} (p : α → Bool) : ∀ l : List α, l.dropWhile p = [] ↔ ∀ x ∈ l, p x = true
 | [] => by simp
 | x :: l => by
  simp only [List.dropWhile_cons]
  by_cases h : p x = true
  ·rw [if_pos h, dropWhile_nil p l]; simp [h]
  ·rw [if_neg h]; simp [h]
theorem dropWhile_mem {α : Type} (p : α → Bool) : ∀ l : List α, l.dropWhile p ≠ [] → ∃ x ∈ l.dropWhile p, p x = false
 | [], h => absurd rfl h
 | x :: l, h => by
  simp only [List.dropWhile_cons] at h ⊢
  by_cases hp : p x = true
  ·rw [if_pos hp] at h ⊢; exact dropWhile_mem p l h
  ·rw [if_neg hp]; exact ⟨x, List.mem_cons_self .., by simpa using hp⟩
theorem trimS_nil (l cs : List UInt8) : Lib.trimS l cs = [] ↔ ∀ b ∈ l, cs.contains b = true := by
 unfold Lib.trimS Lib.trimLeftS Lib.trimRightS
 rw [dropWhile_nil]
 constructor
 ·intro h
  have h1 : l.reverse.dropWhile (cs.contains ·) = [] := by
   rcases Classical.em (l.reverse.dropWhile (cs.contains ·) = []) with h2 | h2
   ·exact h2
   ·obtain ⟨x, hx, hp⟩ := dropWhile_mem _ _ h2
    have := h x (by simpa using hx)
    rw [this] at hp; cases hp
  intro b hb
  exact (dropWhile_nil _ _).1 h1 b (by simpa using hb)
 ·intro h b hb
  have hb' : b ∈ l.reverse.dropWhile (cs.contains ·) := by simpa using hb
  exact h b (by have := (List.dropWhile_sublist _).subset hb'; simpa using this)
theorem hv160 (w : World) : (zeroValue (Tryz.lays160_ren.t 116)).run Tryz.prog w = .ok (.agg (Array.replicate 256 (.bool false))) w := by kernel_rfl
theorem hi160 : (Tryz.prog.info? (Tryz.lays160_ren.t 116)).map (·.size) = some 256 := by kernel_rfl
theorem trim_any (s : ByteArray) (w : World) (hs : s.size ≤ 9223372036854775807) :
  Calls Tryz.prog 119 #[.string s, .string { data := #[97, 98, 99, 100, 101, 102, 103, 104, 105, 106, 107, 108, 109, 110, 111, 112, 113, 114, 115, 116, 117, 118, 119, 120, 121, 122, 65, 66, 67, 68, 69, 70, 71, 72, 73, 74, 75, 76, 77, 78, 79, 80, 81, 82, 83, 84, 85, 86, 87, 88, 89, 90, 95, 48, 49, 50, 51, 52, 53, 54, 55, 56, 57] }] w fun e w' => e = .returned (.string ⟨(Lib.trimS s.data.toList cutL).toArray⟩) ∧ Below w.heap.size w w' :=
 Any.strings_Trim_ascii Tryz.lays160 hv160 hi160 s { data := #[97, 98, 99, 100, 101, 102, 103, 104, 105, 106, 107, 108, 109, 110, 111, 112, 113, 114, 115, 116, 117, 118, 119, 120, 121, 122, 65, 66, 67, 68, 69, 70, 71, 72, 73, 74, 75, 76, 77, 78, 79, 80, 81, 82, 83, 84, 85, 86, 87, 88, 89, 90, 95, 48, 49, 50, 51, 52, 53, 54, 55, 56, 57] } w hs (by decide) (fun j b hj => by
  have h : cutL.all (fun c => decide (c.toNat < 128)) = true := by decide +kernel
  exact of_decide_eq_true (List.all_eq_true.1 h b (List.mem_of_getElem? hj)))
theorem dig_any (c : Int) (w : World) :
  Calls Tryz.prog 97 #[.string { data := #[48, 49, 50, 51, 52, 53, 54, 55, 56, 57] }, .int .u8 c] w fun e w' => e = .returned (.int .i64 (Lib.indexByte digL c.toNat.toUInt8)) ∧ w = w' :=
 (Tryz.strings_IndexByte { data := #[48, 49, 50, 51, 52, 53, 54, 55, 56, 57] } c w).mono fun _ _ ⟨h1, h2⟩ => ⟨h1, h2.symm⟩
theorem nameOk_false1 {l : List UInt8} (h : l = []) : nameOk l = false := by simp [nameOk, h]
theorem nameOk_false2 {l : List UInt8} (h : 20 < l.length) : nameOk l = false := by simp [nameOk]; omega
theorem nameOk_cons {b : UInt8} {l : List UInt8} (h : (b :: l).length ≤ 20) (h2 : Lib.trimS (b :: l) cutL = []) : nameOk (b :: l) = !digitB b := by
 have h3 : (b :: l).all (fun c => letterB c || digitB c) = true := List.all_eq_true.2 fun c hc => by rw [← cut_is]; exact (trimS_nil _ _).1 h2 c hc
 simp only [nameOk, h3]
 simp only [List.length_cons] at h
 simp [h]
theorem nameOk_false3 {l : List UInt8} (h2 : Lib.trimS l cutL ≠ []) : nameOk l = false := by
 have h3 : l.all (fun c => letterB c || digitB c) = false := by
  cases h : l.all (fun c => letterB c || digitB c) with
  | false => rfl
  | true => exact absurd ((trimS_nil l cutL).2 fun b hb => by rw [cut_is]; exact List.all_eq_true.1 h b hb) h2
 simp [nameOk, h3]
def Checked (w : World) (b : Bool) (e : Ending) (w' : World) : Prop := e = .returned (if b then .nilIface else .iface 53 (.int .i64 1)) ∧ Below w.heap.size w w'
theorem check_any (s : ByteArray) (w : World) (hs : s.size ≤ 9223372036854775807) : Calls Tryz.prog 67 #[.string s] w (Checked w (nameOk s.data.toList)) := by
 have hsz : s.data.toList.length = s.size := by rw [Array.length_toList]; rfl
 by_cases h0 : s.size = 0
 ·have hl : s.data.toList = [] := List.eq_nil_of_length_eq_zero (by omega)
  have he : s.toList.isEmpty = true := by rw [ByteArray.toList_eq, hl]; rfl
  have he' : s.toList = [] := by rw [ByteArray.toList_eq, hl]
  have HN := hid (nameOk_false1 hl); clear hsz h0 hl
  go_enter Tryz.func67, Tryz.ntmps67
  go_wp2_with fail
  go_ret
  rw [HN.out]
  exact ⟨rfl, Below.refl _ _⟩
 ·have hl : s.data.toList ≠ [] := fun h => h0 (by rw [← hsz, h]; rfl)
  have he : s.toList.isEmpty = false := by rw [ByteArray.toList_eq]; cases hd : s.data.toList with
   | nil => exact absurd hd hl
   | cons => rfl
  have he' : ¬ s.toList = [] := by rw [ByteArray.toList_eq]; exact hl
  by_cases h1 : 20 < s.size
  ·have HN := hid (nameOk_false2 (l := s.data.toList) (by omega))
   have hb : (20 : Int) < (s.size : Int) := by omega
   clear hsz h0 hl
   go_enter Tryz.func67, Tryz.ntmps67
   go_wp2_with fail
   go_ret
   rw [HN.out]
   exact ⟨rfl, Below.refl _ _⟩
  ·have hb : ¬ (20 : Int) < (s.size : Int) := by omega
   obtain ⟨ts, hts⟩ : ∃ ts : ByteArray, ⟨(Lib.trimS s.data.toList cutL).toArray⟩ = ts := ⟨_, rfl⟩
   have htl : ts.toList = Lib.trimS s.data.toList cutL := by rw [ByteArray.toList_eq, ← hts]
   have HT := hid hts; clear hts
   by_cases h2 : Lib.trimS s.data.toList cutL = []
   ·have hte : ts.toList.isEmpty = true := by rw [htl, h2]; rfl
    have hte' : ts.toList = [] := by rw [htl, h2]
    obtain ⟨b, r, hbr⟩ : ∃ b r, s.data.toList = b :: r := by
     cases hd : s.data.toList with
     | nil => exact absurd hd hl
     | cons b r => exact ⟨b, r, rfl⟩
    have hok : nameOk s.data.toList = !digitB b := by rw [hbr] at h2 ⊢; exact nameOk_cons (by rw [← hbr]; omega) h2
    have hs0 : 0 < s.size := by omega
    have hb0 : s[0] = b := by
     have h5 : s.data.toList[0]? = some b := by rw [hbr]; rfl
     rw [Array.getElem?_toList] at h5
     have h6 : s.data[0]? = some s[0] := Array.getElem?_eq_getElem hs0
     rw [h6] at h5
     exact Option.some.inj h5
    have hi : (0 : Int) < (s.size : Int) := by omega
    have hdg := dig_is b
    have hb9 : ((b.toNat : Int)).toNat.toUInt8 = b := by simp
    have HB0 := hid hb0; have HOK := hid hok; have HDG := hid hdg; have HB9 := hid hb9
    clear hb0 hok hdg hb9 htl h2 hbr hl hsz h0
    go_enter Tryz.func67, Tryz.ntmps67
    go_wp2_with fail
    refine (trim_any s w hs).mono ?_
    rintro e w1 ⟨rfl, hb1⟩
    rw [HT.out]
    go_wp2_with fail
    rw [HB0.out]
    refine (dig_any _ _).mono ?_
    rintro e w2 ⟨rfl, rfl⟩
    rw [HB9.out]
    cases hd : digitB b with
    | true =>
     have h9 : 0 ≤ Lib.indexByte digL b := by have := HDG.out; rw [hd] at this; exact of_decide_eq_true this
     go_wp2
     go_ret
     rw [HOK.out, hd]
     exact ⟨rfl, hb1⟩
    | false =>
     have h9 : ¬ 0 ≤ Lib.indexByte digL b := by have := HDG.out; rw [hd] at this; exact of_decide_eq_false this
     go_wp2
     go_ret
     rw [HOK.out, hd]
     exact ⟨rfl, hb1⟩
   ·have hte : ts.toList.isEmpty = false := by rw [htl]; cases hd : Lib.trimS s.data.toList cutL with
     | nil => exact absurd hd h2
     | cons => rfl
    have hte' : ¬ ts.toList = [] := by rw [htl]; exact h2
    have HN := hid (nameOk_false3 h2); clear htl h2 hl hsz h0
    go_enter Tryz.func67, Tryz.ntmps67
    go_wp2_with fail
    refine (trim_any s w hs).mono ?_
    rintro e w1 ⟨rfl, hb1⟩
    rw [HT.out]
    go_wp2
    go_ret
    rw [HN.out]
    exact ⟨rfl, hb1⟩
theorem checked_true {w w' : World} {e : Ending} {b : Bool} (h : Checked w b e w') (hb : b = true) : e = .returned .nilIface ∧ Below w.heap.size w w' := by
 subst hb; exact h
theorem checked_false {w w' : World} {e : Ending} {b : Bool} (h : Checked w b e w') (hb : b = false) : e = .returned (.iface 53 (.int .i64 1)) ∧ Below w.heap.size w w' := by
 subst hb; exact h
end Go.Proofs.YtloonnfelgokmaaGreatDoor.names
