/- Names: what the reference's IsName computes, for every string. No condition. -/
import Derived.Test.YtogpgfaojmmemaaDoorName
namespace Go.Proofs.YtogpgfaojmmemaaDoor.names
open Go.RowKit Go.Proofs.YtogpgfaojmmemaaDoor.lib Go.Proofs.YtogpgfaojmmemaaDoor.errs

set_option maxHeartbeats 400000 in
theorem digit_any (c : UInt8) (w : World) : Calls Tryd.prog 90 #[.int .u8 (c.toNat : Int)] w fun e w' => e = .returned (.bool (digitB c)) ∧ w = w' := by
  have hc := c.toNat_lt
  by_cases h1 : 48 ≤ c.toNat
  · by_cases h2 : c.toNat ≤ 57
    · have hd : digitB c = true := by simp [digitB, h1, h2]
      have HD := hid hd; clear hd
      have h1' : (48 : Int) ≤ (c.toNat : Int) := by omega
      have h2' : (c.toNat : Int) ≤ 57 := by omega
      clear h1 h2
      go_enter Tryd.func90, Tryd.ntmps90
      go_wp2
      go_ret
      rw [HD.out]
      exact ⟨by simp, rfl⟩
    · have hd : digitB c = false := by simp [digitB]; omega
      have HD := hid hd; clear hd
      have h1' : (48 : Int) ≤ (c.toNat : Int) := by omega
      have h2' : ¬ (c.toNat : Int) ≤ 57 := by omega
      clear h1 h2
      go_enter Tryd.func90, Tryd.ntmps90
      go_wp2
      go_ret
      rw [HD.out]
      exact ⟨by simp, rfl⟩
  · have hd : digitB c = false := by simp [digitB]; omega
    have HD := hid hd; clear hd
    have h1' : ¬ (48 : Int) ≤ (c.toNat : Int) := by omega
    clear h1
    go_enter Tryd.func90, Tryd.ntmps90
    go_wp2
    go_ret
    rw [HD.out]
    exact ⟨by simp, rfl⟩

set_option maxHeartbeats 1000000 in
theorem letter_any (c : UInt8) (w : World) : Calls Tryd.prog 91 #[.int .u8 (c.toNat : Int)] w fun e w' => e = .returned (.bool (letterB c)) ∧ w = w' := by
  have hc := c.toNat_lt
  have key : ∀ n : Int, n = (c.toNat : Int) → Calls Tryd.prog 91 #[.int .u8 n] w fun e w' => e = .returned (.bool (letterB c)) ∧ w = w' := by
    intro n hn
    have H1 := hid hn
    have HL : Hid (letterB c = (decide (97 ≤ n ∧ n ≤ 122) || decide (65 ≤ n ∧ n ≤ 90) || decide (n = 95))) := hid (by
      unfold letterB
      subst hn
      congr 1
      · congr 1 <;> (apply decide_eq_decide.2; omega)
      · apply decide_eq_decide.2; omega)
    have hn0 : 0 ≤ n := by omega
    have hn1 : n ≤ 255 := by omega
    clear hn hc
    by_cases a1 : 97 ≤ n <;> by_cases a2 : n ≤ 122 <;> by_cases b1 : 65 ≤ n <;> by_cases b2 : n ≤ 90 <;> by_cases c1 : n = 95 <;> try omega
    all_goals
      go_enter Tryd.func91, Tryd.ntmps91
      go_wp2
      all_goals go_ret
      all_goals rw [HL.out]
      all_goals exact ⟨by first | (simp [*]; done) | (rw [show (decide (97 ≤ n ∧ n ≤ 122) || decide (65 ≤ n ∧ n ≤ 90) || decide (n = 95)) = (n == 95) from by rw [Bool.eq_iff_iff]; simp; omega]; rfl), rfl⟩
  exact key _ rfl

theorem nameOk_all {l : List UInt8} (h0 : l ≠ []) (h1 : l.length ≤ 20) (h2 : ∀ b, l.head? = some b → digitB b = false) : nameOk l = l.all (fun c => letterB c || digitB c) := by
  have : l.head?.any digitB = false := by
    cases l with
    | nil => exact absurd rfl h0
    | cons b r => simpa using h2 b rfl
  simp [nameOk, h0, h1, this]
theorem nameOk_digit {l : List UInt8} {b : UInt8} (h : l.head? = some b) (hd : digitB b = true) : nameOk l = false := by
  simp [nameOk, h, hd]
theorem all_take_all {l : List UInt8} {p : UInt8 → Bool} {k : Nat} (h : (l.take k).all p = true) (hk : l.length ≤ k) : l.all p = true := by rwa [List.take_of_length_le hk] at h
theorem all_take_step {l : List UInt8} {p : UInt8 → Bool} {k : Nat} (h : (l.take k).all p = true) {b : UInt8} (hb : l[k]? = some b) (hp : p b = true) : (l.take (k + 1)).all p = true := by
  rw [List.take_add_one, hb]
  simp only [List.all_append, h, Option.toList_some, List.all_cons, hp, List.all_nil, Bool.and_self]
theorem all_false {l : List UInt8} {p : UInt8 → Bool} {k : Nat} {b : UInt8} (hb : l[k]? = some b) (hp : p b = false) : l.all p = false := by
  cases h : l.all p with
  | false => rfl
  | true => have := List.all_eq_true.1 h b (List.mem_of_getElem? hb); rw [hp] at this; cases this
theorem byte_at {s : ByteArray} {k : Nat} (h : k < s.size) : s.data.toList[k]? = some s[k] := by
  rw [Array.getElem?_toList]; exact Array.getElem?_eq_getElem h

set_option maxRecDepth 100000 in
set_option maxHeartbeats 1000000 in
theorem isName_any (s : ByteArray) (w : World) (hs : s.size ≤ 9223372036854775807) : Calls Tryd.prog 64 #[.string s] w fun e w' => e = .returned (.bool (nameOk s.data.toList)) ∧ w = w' := by
  have hsz : s.data.toList.length = s.size := by rw [Array.length_toList]; rfl
  by_cases h0 : s.size = 0
  · have hl : s.data.toList = [] := List.eq_nil_of_length_eq_zero (by omega)
    have HN := hid (nameOk_false1 hl)
    have hb : (((s.size : Int)) == 0) = true := by simp [h0]
    clear hsz hl
    go_enter Tryd.func64, Tryd.ntmps64
    go_wp2_with fail
    go_ret
    rw [HN.out]
    exact ⟨rfl, rfl⟩
  · have hb : (((s.size : Int)) == 0) = false := by rw [beq_eq_false_iff_ne]; omega
    by_cases h1 : 20 < s.size
    · have HN := hid (nameOk_false2 (l := s.data.toList) (by rw [hsz]; exact h1))
      have hb2 : (20 : Int) < (s.size : Int) := by omega
      clear hsz h0
      go_enter Tryd.func64, Tryd.ntmps64
      go_wp2_with fail
      go_ret
      rw [HN.out]
      exact ⟨rfl, rfl⟩
    · have hb2 : ¬ (20 : Int) < (s.size : Int) := by omega
      have hi : (0 : Int) < (s.size : Int) := by omega
      have hi' : 0 < s.size := by omega
      have hhead : s.data.toList.head? = some s[0] := by rw [List.head?_eq_getElem?]; exact byte_at hi'
      have hne : s.data.toList ≠ [] := fun h => by rw [h] at hhead; cases hhead
      cases hd : digitB s[0] with
      | true =>
        have HN := hid (nameOk_digit hhead hd); have HD := hid hd
        clear hhead hne hd hsz h0
        go_enter Tryd.func64, Tryd.ntmps64
        go_wp2_with fail
        refine (digit_any _ _).mono ?_
        rintro e w1 ⟨rfl, rfl⟩
        rw [HD.out]
        go_wp2_with fail
        go_ret
        rw [HN.out]
        exact ⟨rfl, rfl⟩
      | false =>
        have HN := hid (nameOk_all hne (by omega) (fun b hb => by rw [hhead] at hb; cases hb; exact hd)); have HD := hid hd
        have HSZ := hid hsz
        clear hhead hne hd hsz h0
        go_enter Tryd.func64, Tryd.ntmps64
        go_wp2_with fail
        refine (digit_any _ _).mono ?_
        rintro e w1 ⟨rfl, rfl⟩
        rw [HD.out]
        go_wp2_with fail
        go_loop [3] (fun i => ∃ k : Nat, k ≤ s.size ∧ i = .int .i64 k ∧ Hid ((s.data.toList.take k).all (fun c => letterB c || digitB c) = true)) (fun i => s.size - (intOf i).toNat)
        case atStart => exact ⟨0, Nat.zero_le _, rfl, hid rfl⟩
        case round =>
          obtain ⟨k, hk, rfl, HA⟩ := hrel
          by_cases hlt : k < s.size
          · have hat := hid (byte_at hlt)
            have hl1 : (k : Int) < (s.size : Int) := by omega
            cases hL : letterB s[k] with
            | true =>
              have HL := hid hL; clear hL
              have HS := hid (all_take_step HA.out hat.out (by rw [HL.out]; rfl))
              go_wp2_with fail
              refine (letter_any _ _).mono ?_
              rintro e w1 ⟨rfl, rfl⟩
              rw [HL.out]
              go_wp2
              go_round
              case rel => exact ⟨k + 1, by omega, by go_num, HS⟩
              case measure => simp [intOf]; omega
            | false =>
              have HL := hid hL; clear hL
              cases hD : digitB s[k] with
              | true =>
                have HD2 := hid hD; clear hD
                have HS := hid (all_take_step HA.out hat.out (by rw [HL.out, HD2.out]; rfl))
                go_wp2_with fail
                refine (letter_any _ _).mono ?_
                rintro e w1 ⟨rfl, rfl⟩
                rw [HL.out]
                go_wp2_with fail
                refine (digit_any _ _).mono ?_
                rintro e w1 ⟨rfl, rfl⟩
                rw [HD2.out]
                go_wp2
                go_round
                case rel => exact ⟨k + 1, by omega, by go_num, HS⟩
                case measure => simp [intOf]; omega
              | false =>
                have HD2 := hid hD; clear hD
                have HS := hid (all_false (p := fun c => letterB c || digitB c) hat.out (by show (letterB s[k] || digitB s[k]) = false; rw [HL.out, HD2.out]; rfl))
                go_wp2_with fail
                refine (letter_any _ _).mono ?_
                rintro e w1 ⟨rfl, rfl⟩
                rw [HL.out]
                go_wp2_with fail
                refine (digit_any _ _).mono ?_
                rintro e w1 ⟨rfl, rfl⟩
                rw [HD2.out]
                go_wp2
                go_ret
                rw [HN.out, HS.out]
                exact ⟨rfl, rfl⟩
          · have HS := hid (all_take_all HA.out (by rw [HSZ.out]; omega))
            go_wp2
            go_ret
            rw [HN.out, HS.out]
            exact ⟨rfl, rfl⟩
end Go.Proofs.YtogpgfaojmmemaaDoor.names
