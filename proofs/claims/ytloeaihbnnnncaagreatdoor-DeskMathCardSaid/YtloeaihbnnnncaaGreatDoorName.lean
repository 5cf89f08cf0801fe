/- Names: what name.Check and the reference's IsName compute, for every string. No condition. -/
import Derived.Test.YtloeaihbnnnncaaGreatDoorErrV
import Derived.Test.YtloeaihbnnnncaaGreatDoorShelf
import Derived.Shelf.Strings.SlTrimAscii
namespace Go.Proofs.YtloeaihbnnnncaaGreatDoor.names
open Go.RowKit Go.Proofs.YtloeaihbnnnncaaGreatDoor.lib Go.Proofs.YtloeaihbnnnncaaGreatDoor.errs

def letterB (c : UInt8) : Bool := decide (97 ≤ c.toNat ∧ c.toNat ≤ 122) || decide (65 ≤ c.toNat ∧ c.toNat ≤ 90) || decide (c.toNat = 95)
def digitB (c : UInt8) : Bool := decide (48 ≤ c.toNat ∧ c.toNat ≤ 57)
def nameOk (l : List UInt8) : Bool := decide (l ≠ []) && decide (l.length ≤ 20) && l.all (fun c => letterB c || digitB c) && !(l.head?.any digitB)

def cutL : List UInt8 := [97, 98, 99, 100, 101, 102, 103, 104, 105, 106, 107, 108, 109, 110, 111, 112, 113, 114, 115, 116, 117, 118, 119, 120, 121, 122, 65, 66, 67, 68, 69, 70, 71, 72, 73, 74, 75, 76, 77, 78, 79, 80, 81, 82, 83, 84, 85, 86, 87, 88, 89, 90, 95, 48, 49, 50, 51, 52, 53, 54, 55, 56, 57]
def digL : List UInt8 := [48, 49, 50, 51, 52, 53, 54, 55, 56, 57]
theorem cut_is (c : UInt8) : cutL.contains c = (letterB c || digitB c) := by
  have h : (List.range 256).all (fun n => cutL.contains (UInt8.ofNat n) == (letterB (UInt8.ofNat n) || digitB (UInt8.ofNat n))) = true := by decide +kernel
  have h1 := List.all_eq_true.1 h c.toNat (List.mem_range.2 c.toNat_lt)
  simpa using h1
theorem dig_is (c : UInt8) : decide (0 ≤ Lib.indexByte digL c) = digitB c := by
  have h : (List.range 256).all (fun n => decide (0 ≤ Lib.indexByte digL (UInt8.ofNat n)) == digitB (UInt8.ofNat n)) = true := by decide +kernel
  have h1 := List.all_eq_true.1 h c.toNat (List.mem_range.2 c.toNat_lt)
  simpa using h1

theorem dropWhile_nil {α : Type} (p : α → Bool) : ∀ l : List α, l.dropWhile p = [] ↔ ∀ x ∈ l, p x = true
  | [] => by simp
  | x :: l => by
    simp only [List.dropWhile_cons]
    by_cases h : p x = true
    · rw [if_pos h, dropWhile_nil p l]; simp [h]
    · rw [if_neg h]; simp [h]
theorem dropWhile_mem {α : Type} (p : α → Bool) : ∀ l : List α, l.dropWhile p ≠ [] → ∃ x ∈ l.dropWhile p, p x = false
  | [], h => absurd rfl h
  | x :: l, h => by
    simp only [List.dropWhile_cons] at h ⊢
    by_cases hp : p x = true
    · rw [if_pos hp] at h ⊢; exact dropWhile_mem p l h
    · rw [if_neg hp]; exact ⟨x, List.mem_cons_self .., by simpa using hp⟩
theorem trimS_nil (l cs : List UInt8) : Lib.trimS l cs = [] ↔ ∀ b ∈ l, cs.contains b = true := by
  unfold Lib.trimS Lib.trimLeftS Lib.trimRightS
  rw [dropWhile_nil]
  constructor
  · intro h
    have h1 : l.reverse.dropWhile (cs.contains ·) = [] := by
      rcases Classical.em (l.reverse.dropWhile (cs.contains ·) = []) with h2 | h2
      · exact h2
      · obtain ⟨x, hx, hp⟩ := dropWhile_mem _ _ h2
        have := h x (by simpa using hx)
        rw [this] at hp; cases hp
    intro b hb
    exact (dropWhile_nil _ _).1 h1 b (by simpa using hb)
  · intro h b hb
    have hb' : b ∈ l.reverse.dropWhile (cs.contains ·) := by simpa using hb
    exact h b (by have := (List.dropWhile_sublist _).subset hb'; simpa using this)

theorem hv160 (w : World) : (zeroValue (Tryz.lays160_ren.t 116)).run Tryz.prog w = .ok (.agg (Array.replicate 256 (.bool false))) w := by kernel_rfl
theorem hi160 : (Tryz.prog.info? (Tryz.lays160_ren.t 116)).map (·.size) = some 256 := by kernel_rfl

theorem trim_any (s : ByteArray) (w : World) (hs : s.size ≤ 9223372036854775807) :
    Calls Tryz.prog 124 #[.string s, .string { data := #[97, 98, 99, 100, 101, 102, 103, 104, 105, 106, 107, 108, 109, 110, 111, 112, 113, 114, 115, 116, 117, 118, 119, 120, 121, 122, 65, 66, 67, 68, 69, 70, 71, 72, 73, 74, 75, 76, 77, 78, 79, 80, 81, 82, 83, 84, 85, 86, 87, 88, 89, 90, 95, 48, 49, 50, 51, 52, 53, 54, 55, 56, 57] }] w fun e w' => e = .returned (.string ⟨(Lib.trimS s.data.toList cutL).toArray⟩) ∧ Below w.heap.size w w' :=
  Any.strings_Trim_ascii Tryz.lays160 hv160 hi160 s { data := #[97, 98, 99, 100, 101, 102, 103, 104, 105, 106, 107, 108, 109, 110, 111, 112, 113, 114, 115, 116, 117, 118, 119, 120, 121, 122, 65, 66, 67, 68, 69, 70, 71, 72, 73, 74, 75, 76, 77, 78, 79, 80, 81, 82, 83, 84, 85, 86, 87, 88, 89, 90, 95, 48, 49, 50, 51, 52, 53, 54, 55, 56, 57] } w hs (by decide) (fun j b hj => by
    have h : cutL.all (fun c => decide (c.toNat < 128)) = true := by decide +kernel
    exact of_decide_eq_true (List.all_eq_true.1 h b (List.mem_of_getElem? hj)))
theorem dig_any (c : Int) (w : World) :
    Calls Tryz.prog 103 #[.string { data := #[48, 49, 50, 51, 52, 53, 54, 55, 56, 57] }, .int .u8 c] w fun e w' => e = .returned (.int .i64 (Lib.indexByte digL c.toNat.toUInt8)) ∧ w = w' :=
  (Tryz.strings_IndexByte { data := #[48, 49, 50, 51, 52, 53, 54, 55, 56, 57] } c w).mono fun _ _ ⟨h1, h2⟩ => ⟨h1, h2.symm⟩

theorem nameOk_false1 {l : List UInt8} (h : l = []) : nameOk l = false := by simp [nameOk, h]
theorem nameOk_false2 {l : List UInt8} (h : 20 < l.length) : nameOk l = false := by simp [nameOk]; omega
theorem nameOk_cons {b : UInt8} {l : List UInt8} (h : (b :: l).length ≤ 20) (h2 : Lib.trimS (b :: l) cutL = []) : nameOk (b :: l) = !digitB b := by
  have h3 : (b :: l).all (fun c => letterB c || digitB c) = true := List.all_eq_true.2 fun c hc => by rw [← cut_is]; exact (trimS_nil _ _).1 h2 c hc
  simp only [nameOk, h3]
  simp only [List.length_cons] at h
  simp [h]
theorem nameOk_false3 {l : List UInt8} (h2 : Lib.trimS l cutL ≠ []) : nameOk l = false := by
  have h3 : l.all (fun c => letterB c || digitB c) = false := by
    cases h : l.all (fun c => letterB c || digitB c) with
    | false => rfl
    | true => exact absurd ((trimS_nil l cutL).2 fun b hb => by rw [cut_is]; exact List.all_eq_true.1 h b hb) h2
  simp [nameOk, h3]

/-- name.Check's answer -/
def Checked (w : World) (b : Bool) (e : Ending) (w' : World) : Prop := e = .returned (if b then .nilIface else .iface 58 (.int .i64 1)) ∧ Below w.heap.size w w'

set_option maxRecDepth 100000 in
set_option maxHeartbeats 1000000 in
theorem check_any (s : ByteArray) (w : World) (hs : s.size ≤ 9223372036854775807) : Calls Tryz.prog 71 #[.string s] w (Checked w (nameOk s.data.toList)) := by
  have hsz : s.data.toList.length = s.size := by rw [Array.length_toList]; rfl
  by_cases h0 : s.size = 0
  · have hl : s.data.toList = [] := List.eq_nil_of_length_eq_zero (by omega)
    have he : s.toList.isEmpty = true := by rw [ByteArray.toList_eq, hl]; rfl
    have he' : s.toList = [] := by rw [ByteArray.toList_eq, hl]
    have HN := hid (nameOk_false1 hl); clear hsz h0 hl
    go_enter Tryz.func71, Tryz.ntmps71
    go_wp2_with fail
    go_ret
    rw [HN.out]
    exact ⟨rfl, Below.refl _ _⟩
  · have hl : s.data.toList ≠ [] := fun h => h0 (by rw [← hsz, h]; rfl)
    have he : s.toList.isEmpty = false := by rw [ByteArray.toList_eq]; cases hd : s.data.toList with
      | nil => exact absurd hd hl
      | cons => rfl
    have he' : ¬ s.toList = [] := by rw [ByteArray.toList_eq]; exact hl
    by_cases h1 : 20 < s.size
    · have HN := hid (nameOk_false2 (l := s.data.toList) (by omega))
      have hb : (20 : Int) < (s.size : Int) := by omega
      clear hsz h0 hl
      go_enter Tryz.func71, Tryz.ntmps71
      go_wp2_with fail
      go_ret
      rw [HN.out]
      exact ⟨rfl, Below.refl _ _⟩
    · have hb : ¬ (20 : Int) < (s.size : Int) := by omega
      obtain ⟨ts, hts⟩ : ∃ ts : ByteArray, ⟨(Lib.trimS s.data.toList cutL).toArray⟩ = ts := ⟨_, rfl⟩
      have htl : ts.toList = Lib.trimS s.data.toList cutL := by rw [ByteArray.toList_eq, ← hts]
      have HT := hid hts; clear hts
      by_cases h2 : Lib.trimS s.data.toList cutL = []
      · have hte : ts.toList.isEmpty = true := by rw [htl, h2]; rfl
        have hte' : ts.toList = [] := by rw [htl, h2]
        obtain ⟨b, r, hbr⟩ : ∃ b r, s.data.toList = b :: r := by
          cases hd : s.data.toList with
          | nil => exact absurd hd hl
          | cons b r => exact ⟨b, r, rfl⟩
        have hok : nameOk s.data.toList = !digitB b := by rw [hbr] at h2 ⊢; exact nameOk_cons (by rw [← hbr]; omega) h2
        have hs0 : 0 < s.size := by omega
        have hb0 : s[0] = b := by
          have h5 : s.data.toList[0]? = some b := by rw [hbr]; rfl
          rw [Array.getElem?_toList] at h5
          have h6 : s.data[0]? = some s[0] := Array.getElem?_eq_getElem hs0
          rw [h6] at h5
          exact Option.some.inj h5
        have hi : (0 : Int) < (s.size : Int) := by omega
        have hdg := dig_is b
        have hb9 : ((b.toNat : Int)).toNat.toUInt8 = b := by simp
        have HB0 := hid hb0; have HOK := hid hok; have HDG := hid hdg; have HB9 := hid hb9
        clear hb0 hok hdg hb9 htl h2 hbr hl hsz h0
        go_enter Tryz.func71, Tryz.ntmps71
        go_wp2_with fail
        refine (trim_any s w hs).mono ?_
        rintro e w1 ⟨rfl, hb1⟩
        rw [HT.out]
        go_wp2_with fail
        rw [HB0.out]
        refine (dig_any _ _).mono ?_
        rintro e w2 ⟨rfl, rfl⟩
        rw [HB9.out]
        cases hd : digitB b with
        | true =>
          have h9 : 0 ≤ Lib.indexByte digL b := by have := HDG.out; rw [hd] at this; exact of_decide_eq_true this
          go_wp2
          go_ret
          rw [HOK.out, hd]
          exact ⟨rfl, hb1⟩
        | false =>
          have h9 : ¬ 0 ≤ Lib.indexByte digL b := by have := HDG.out; rw [hd] at this; exact of_decide_eq_false this
          go_wp2
          go_ret
          rw [HOK.out, hd]
          exact ⟨rfl, hb1⟩
      · have hte : ts.toList.isEmpty = false := by rw [htl]; cases hd : Lib.trimS s.data.toList cutL with
          | nil => exact absurd hd h2
          | cons => rfl
        have hte' : ¬ ts.toList = [] := by rw [htl]; exact h2
        have HN := hid (nameOk_false3 h2); clear htl h2 hl hsz h0
        go_enter Tryz.func71, Tryz.ntmps71
        go_wp2_with fail
        refine (trim_any s w hs).mono ?_
        rintro e w1 ⟨rfl, hb1⟩
        rw [HT.out]
        go_wp2
        go_ret
        rw [HN.out]
        exact ⟨rfl, hb1⟩
theorem checked_true {w w' : World} {e : Ending} {b : Bool} (h : Checked w b e w') (hb : b = true) : e = .returned .nilIface ∧ Below w.heap.size w w' := by
  subst hb; exact h
theorem checked_false {w w' : World} {e : Ending} {b : Bool} (h : Checked w b e w') (hb : b = false) : e = .returned (.iface 58 (.int .i64 1)) ∧ Below w.heap.size w w' := by
  subst hb; exact h
end Go.Proofs.YtloeaihbnnnncaaGreatDoor.names

/- Names: what the reference's IsName computes, for every string. No condition. -/
namespace Go.Proofs.YtloeaihbnnnncaaGreatDoor.names
open Go.RowKit Go.Proofs.YtloeaihbnnnncaaGreatDoor.lib Go.Proofs.YtloeaihbnnnncaaGreatDoor.errs

set_option maxHeartbeats 400000 in
theorem digit_any (c : UInt8) (w : World) : Calls Tryz.prog 86 #[.int .u8 (c.toNat : Int)] w fun e w' => e = .returned (.bool (digitB c)) ∧ w = w' := by
  have hc := c.toNat_lt
  by_cases h1 : 48 ≤ c.toNat
  · by_cases h2 : c.toNat ≤ 57
    · have hd : digitB c = true := by simp [digitB, h1, h2]
      have HD := hid hd; clear hd
      have h1' : (48 : Int) ≤ (c.toNat : Int) := by omega
      have h2' : (c.toNat : Int) ≤ 57 := by omega
      clear h1 h2
      go_enter Tryz.func86, Tryz.ntmps86
      go_wp2
      go_ret
      rw [HD.out]
      exact ⟨by simp, rfl⟩
    · have hd : digitB c = false := by simp [digitB]; omega
      have HD := hid hd; clear hd
      have h1' : (48 : Int) ≤ (c.toNat : Int) := by omega
      have h2' : ¬ (c.toNat : Int) ≤ 57 := by omega
      clear h1 h2
      go_enter Tryz.func86, Tryz.ntmps86
      go_wp2
      go_ret
      rw [HD.out]
      exact ⟨by simp, rfl⟩
  · have hd : digitB c = false := by simp [digitB]; omega
    have HD := hid hd; clear hd
    have h1' : ¬ (48 : Int) ≤ (c.toNat : Int) := by omega
    clear h1
    go_enter Tryz.func86, Tryz.ntmps86
    go_wp2
    go_ret
    rw [HD.out]
    exact ⟨by simp, rfl⟩

set_option maxHeartbeats 1000000 in
theorem letter_any (c : UInt8) (w : World) : Calls Tryz.prog 87 #[.int .u8 (c.toNat : Int)] w fun e w' => e = .returned (.bool (letterB c)) ∧ w = w' := by
  have hc := c.toNat_lt
  have key : ∀ n : Int, n = (c.toNat : Int) → Calls Tryz.prog 87 #[.int .u8 n] w fun e w' => e = .returned (.bool (letterB c)) ∧ w = w' := by
    intro n hn
    have H1 := hid hn
    have HL : Hid (letterB c = (decide (97 ≤ n ∧ n ≤ 122) || decide (65 ≤ n ∧ n ≤ 90) || decide (n = 95))) := hid (by
      unfold letterB
      subst hn
      congr 1
      · congr 1 <;> (apply decide_eq_decide.2; omega)
      · apply decide_eq_decide.2; omega)
    have hn0 : 0 ≤ n := by omega
    have hn1 : n ≤ 255 := by omega
    clear hn hc
    by_cases a1 : 97 ≤ n <;> by_cases a2 : n ≤ 122 <;> by_cases b1 : 65 ≤ n <;> by_cases b2 : n ≤ 90 <;> by_cases c1 : n = 95 <;> try omega
    all_goals
      go_enter Tryz.func87, Tryz.ntmps87
      go_wp2
      all_goals go_ret
      all_goals rw [HL.out]
      all_goals exact ⟨by first | (simp [*]; done) | (rw [show (decide (97 ≤ n ∧ n ≤ 122) || decide (65 ≤ n ∧ n ≤ 90) || decide (n = 95)) = (n == 95) from by rw [Bool.eq_iff_iff]; simp; omega]; rfl), rfl⟩
  exact key _ rfl

theorem nameOk_all {l : List UInt8} (h0 : l ≠ []) (h1 : l.length ≤ 20) (h2 : ∀ b, l.head? = some b → digitB b = false) : nameOk l = l.all (fun c => letterB c || digitB c) := by
  have : l.head?.any digitB = false := by
    cases l with
    | nil => exact absurd rfl h0
    | cons b r => simpa using h2 b rfl
  simp [nameOk, h0, h1, this]
theorem nameOk_digit {l : List UInt8} {b : UInt8} (h : l.head? = some b) (hd : digitB b = true) : nameOk l = false := by
  simp [nameOk, h, hd]
theorem all_take_all {l : List UInt8} {p : UInt8 → Bool} {k : Nat} (h : (l.take k).all p = true) (hk : l.length ≤ k) : l.all p = true := by rwa [List.take_of_length_le hk] at h
theorem all_take_step {l : List UInt8} {p : UInt8 → Bool} {k : Nat} (h : (l.take k).all p = true) {b : UInt8} (hb : l[k]? = some b) (hp : p b = true) : (l.take (k + 1)).all p = true := by
  rw [List.take_add_one, hb]
  simp only [List.all_append, h, Option.toList_some, List.all_cons, hp, List.all_nil, Bool.and_self]
theorem all_false {l : List UInt8} {p : UInt8 → Bool} {k : Nat} {b : UInt8} (hb : l[k]? = some b) (hp : p b = false) : l.all p = false := by
  cases h : l.all p with
  | false => rfl
  | true => have := List.all_eq_true.1 h b (List.mem_of_getElem? hb); rw [hp] at this; cases this
theorem byte_at {s : ByteArray} {k : Nat} (h : k < s.size) : s.data.toList[k]? = some s[k] := by
  rw [Array.getElem?_toList]; exact Array.getElem?_eq_getElem h

set_option maxRecDepth 100000 in
set_option maxHeartbeats 1000000 in
theorem isName_any (s : ByteArray) (w : World) (hs : s.size ≤ 9223372036854775807) : Calls Tryz.prog 48 #[.string s] w fun e w' => e = .returned (.bool (nameOk s.data.toList)) ∧ w = w' := by
  have hsz : s.data.toList.length = s.size := by rw [Array.length_toList]; rfl
  by_cases h0 : s.size = 0
  · have hl : s.data.toList = [] := List.eq_nil_of_length_eq_zero (by omega)
    have HN := hid (nameOk_false1 hl)
    have hb : (((s.size : Int)) == 0) = true := by simp [h0]
    clear hsz hl
    go_enter Tryz.func48, Tryz.ntmps48
    go_wp2_with fail
    go_ret
    rw [HN.out]
    exact ⟨rfl, rfl⟩
  · have hb : (((s.size : Int)) == 0) = false := by rw [beq_eq_false_iff_ne]; omega
    by_cases h1 : 20 < s.size
    · have HN := hid (nameOk_false2 (l := s.data.toList) (by rw [hsz]; exact h1))
      have hb2 : (20 : Int) < (s.size : Int) := by omega
      clear hsz h0
      go_enter Tryz.func48, Tryz.ntmps48
      go_wp2_with fail
      go_ret
      rw [HN.out]
      exact ⟨rfl, rfl⟩
    · have hb2 : ¬ (20 : Int) < (s.size : Int) := by omega
      have hi : (0 : Int) < (s.size : Int) := by omega
      have hi' : 0 < s.size := by omega
      have hhead : s.data.toList.head? = some s[0] := by rw [List.head?_eq_getElem?]; exact byte_at hi'
      have hne : s.data.toList ≠ [] := fun h => by rw [h] at hhead; cases hhead
      cases hd : digitB s[0] with
      | true =>
        have HN := hid (nameOk_digit hhead hd); have HD := hid hd
        clear hhead hne hd hsz h0
        go_enter Tryz.func48, Tryz.ntmps48
        go_wp2_with fail
        refine (digit_any _ _).mono ?_
        rintro e w1 ⟨rfl, rfl⟩
        rw [HD.out]
        go_wp2_with fail
        go_ret
        rw [HN.out]
        exact ⟨rfl, rfl⟩
      | false =>
        have HN := hid (nameOk_all hne (by omega) (fun b hb => by rw [hhead] at hb; cases hb; exact hd)); have HD := hid hd
        have HSZ := hid hsz
        clear hhead hne hd hsz h0
        go_enter Tryz.func48, Tryz.ntmps48
        go_wp2_with fail
        refine (digit_any _ _).mono ?_
        rintro e w1 ⟨rfl, rfl⟩
        rw [HD.out]
        go_wp2_with fail
        go_loop [3] (fun i => ∃ k : Nat, k ≤ s.size ∧ i = .int .i64 k ∧ Hid ((s.data.toList.take k).all (fun c => letterB c || digitB c) = true)) (fun i => s.size - (intOf i).toNat)
        case atStart => exact ⟨0, Nat.zero_le _, rfl, hid rfl⟩
        case round =>
          obtain ⟨k, hk, rfl, HA⟩ := hrel
          by_cases hlt : k < s.size
          · have hat := hid (byte_at hlt)
            have hl1 : (k : Int) < (s.size : Int) := by omega
            cases hL : letterB s[k] with
            | true =>
              have HL := hid hL; clear hL
              have HS := hid (all_take_step HA.out hat.out (by rw [HL.out]; rfl))
              go_wp2_with fail
              refine (letter_any _ _).mono ?_
              rintro e w1 ⟨rfl, rfl⟩
              rw [HL.out]
              go_wp2
              go_round
              case rel => exact ⟨k + 1, by omega, by go_num, HS⟩
              case measure => simp [intOf]; omega
            | false =>
              have HL := hid hL; clear hL
              cases hD : digitB s[k] with
              | true =>
                have HD2 := hid hD; clear hD
                have HS := hid (all_take_step HA.out hat.out (by rw [HL.out, HD2.out]; rfl))
                go_wp2_with fail
                refine (letter_any _ _).mono ?_
                rintro e w1 ⟨rfl, rfl⟩
                rw [HL.out]
                go_wp2_with fail
                refine (digit_any _ _).mono ?_
                rintro e w1 ⟨rfl, rfl⟩
                rw [HD2.out]
                go_wp2
                go_round
                case rel => exact ⟨k + 1, by omega, by go_num, HS⟩
                case measure => simp [intOf]; omega
              | false =>
                have HD2 := hid hD; clear hD
                have HS := hid (all_false (p := fun c => letterB c || digitB c) hat.out (by show (letterB s[k] || digitB s[k]) = false; rw [HL.out, HD2.out]; rfl))
                go_wp2_with fail
                refine (letter_any _ _).mono ?_
                rintro e w1 ⟨rfl, rfl⟩
                rw [HL.out]
                go_wp2_with fail
                refine (digit_any _ _).mono ?_
                rintro e w1 ⟨rfl, rfl⟩
                rw [HD2.out]
                go_wp2
                go_ret
                rw [HN.out, HS.out]
                exact ⟨rfl, rfl⟩
          · have HS := hid (all_take_all HA.out (by rw [HSZ.out]; omega))
            go_wp2
            go_ret
            rw [HN.out, HS.out]
            exact ⟨rfl, rfl⟩
end Go.Proofs.YtloeaihbnnnncaaGreatDoor.names
