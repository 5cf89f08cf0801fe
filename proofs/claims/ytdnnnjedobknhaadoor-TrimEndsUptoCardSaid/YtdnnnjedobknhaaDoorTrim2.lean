/- What is never done: trim.places. Condition: the code is not long. -/
import Derived.Test.YtdnnnjedobknhaaDoorTrim1
namespace Go.Proofs.YtdnnnjedobknhaaDoor.trims
open Go.RowKit Go.Proofs.YtdnnnjedobknhaaDoor.lib Go.Proofs.YtdnnnjedobknhaaDoor.errs Go.Proofs.YtdnnnjedobknhaaDoor.names Go.Proofs.YtdnnnjedobknhaaDoor.descs Go.Proofs.YtdnnnjedobknhaaDoor.ins Go.Proofs.YtdnnnjedobknhaaDoor.reach Go.Proofs.YtdnnnjedobknhaaDoor.flows

/-- the new places, as far as they are told -/
def plL (l : List I) (s : List Bool) (N k : Nat) : List Int := (List.range N).map fun i => if i < k then (placeOf l s i : Int) else 0
theorem plL_len (l : List I) (s : List Bool) (N k : Nat) : (plL l s N k).length = N := by simp [plL]
theorem plL_set {l : List I} {s : List Bool} {N k : Nat} (_h : k < N) : (plL l s N k).set k (placeOf l s k : Int) = plL l s N (k + 1) := by
  apply List.ext_getElem (by simp [plL])
  intro i h1 h2
  rw [List.getElem_set]
  simp only [plL, List.getElem_map, List.getElem_range]
  by_cases hk : k = i
  · subst hk; rw [if_pos rfl, if_pos (by omega)]
  · rw [if_neg hk]
    by_cases hi : i < k
    · rw [if_pos hi, if_pos (by omega)]
    · rw [if_neg hi, if_neg (by omega)]
theorem plL_zero (l : List I) (s : List Bool) (N : Nat) : (plL l s N 0).map (Value.int .i64) = List.replicate N (.int .i64 0) := by
  apply List.ext_getElem (by simp [plL])
  intro i h1 h2
  simp [plL]
def placesL (l : List I) (s : List Bool) : List Nat := (List.range (l.length + 1)).map (placeOf l s)
theorem placesL_len (l : List I) (s : List Bool) : (placesL l s).length = l.length + 1 := by simp [placesL]
theorem placesL_at {l : List I} {s : List Bool} {i : Nat} (h : i < (placesL l s).length) : (placesL l s)[i] = placeOf l s i := by simp [placesL]
theorem plL_all (l : List I) (s : List Bool) : (plL l s (l.length + 1) (l.length + 1)).map (Value.int .i64) = nats (placesL l s) := by
  apply List.ext_getElem (by simp [plL, nats, placesL])
  intro i h1 h2
  have : i < l.length + 1 := by simpa [plL] using h1
  simp [plL, nats, placesL, this]

set_option maxRecDepth 100000 in
set_option maxHeartbeats 4000000 in
theorem places_any (va vk : Value) (l : List I) (s : List Bool) (w : World) (ha : Go.Proofs.YtdnnnjedobknhaaDoor.flows.Code w va l) (hk : Sl w vk s.length 1 (bools s)) (hl : s.length = l.length) (hn : l.length ≤ 2000000) :
    Calls Tryd.prog 99 #[va, vk] w fun e w' => ∃ v, e = .returned v ∧ Out w w' 3 1 v (placesL l s).length (nats (placesL l s)) := by
  obtain ⟨a, c, rfl⟩ := ha.val
  obtain ⟨a2, c2, rfl⟩ := hk.val
  have HA := hid ha; have HK := hid hk
  have hmk := run_make_row' (P := Tryd.prog) 26 3 (.int .i64 0) 8 Tryd.underlying26 infoInt rfl .i64 .i64 (l.length + 1) (by omega) (by omega)
  rw [madeCells_one, show ((l.length + 1 : Nat) : Int) = (l.length : Int) + 1 by omega] at hmk
  have HO : Hid (Out w (w.alloc (.cells (Array.replicate (l.length + 1) (.int .i64 0)) 3)) 3 1 (.slice (some ⟨w.heap.size, 0, none⟩) (l.length + 1) (l.length + 1)) (l.length + 1) ((plL l s (l.length + 1) 0).map (.int .i64))) := hid (by
    rw [plL_zero]; exact Out.row w (.int .i64 0) 3 (l.length + 1) (by unfold maxLen; omega))
  clear ha hk
  go_enter Tryd.func99, Tryd.ntmps99
  go_wp2_with fail
  go_loopw [6, 15] (fun p i wr => ∃ k : Nat, k ≤ l.length ∧ p = .int .i64 (placeOf l s k : Nat) ∧ i = .int .i64 k ∧ Hid (Out w wr 3 1 (.slice (some ⟨w.heap.size, 0, none⟩) (l.length + 1) (l.length + 1)) (l.length + 1) ((plL l s (l.length + 1) k).map (.int .i64)))) (fun _ i _ => l.length - (intOf i).toNat)
  case atStart => exact ⟨0, Nat.zero_le _, rfl, rfl, HO⟩
  case round =>
    obtain ⟨k, hk, rfl, rfl, HR⟩ := hrel
    clear HO hmk
    have hple := place_le l s k
    by_cases hlt : k < l.length
    · obtain ⟨b, off, hab, hc0, hc1, hc2, hc3, hc4, hc5⟩ := code_at (HA.out.below HR.out.below) hlt
      subst hab
      have hks : k < s.length := by omega
      have hi : (0 : Int) ≤ (k : Int) := by omega
      have hkl : (k : Int) < (l.length : Int) := by omega
      have hkl1 : (k : Int) < (l.length : Int) + 1 := by omega
      have hkl2 : (k : Int) < (s.length : Int) := by omega
      have hkp := kept_at (s := s) hlt
      have HPS := hid (place_succ l s k)
      generalize l[k] = x at hc0 hc1 hc2 hc3 hc4 hc5 hkp
      obtain ⟨op, xa, xb, t, xc, xn⟩ := x
      obtain ⟨g0, cap0, u0, hv0, hg0, hcu, hfz, hset⟩ := HR.out.store (i := k) (by omega)
      simp only [Value.slice.injEq, Option.some.injEq, Addr.mk.injEq] at hv0
      obtain ⟨⟨rfl, _, _⟩, _, rfl⟩ := hv0
      have hso := (hset (.int .i64 (placeOf l s k : Nat))).alloc (.cells #[.int .i64 op, .int .i64 xa, .int .i64 xb, .string t, .string xc, .string xn] 53)
      rw [show ((plL l s (l.length + 1) k).map (Value.int .i64)).set k (.int .i64 (placeOf l s k : Nat)) = (plL l s (l.length + 1) (k + 1)).map (.int .i64) from by rw [← plL_set (by omega), List.map_set]] at hso
      have HSO := hid hso
      have hgl := (HR.out.own.lt _ rfl).2
      simp only at hgl
      obtain ⟨bx, ox, hax, u, hu, hcx⟩ := (HK.out.below HSO.out.below).at1 hks
      subst hax
      rw [bools_at hks] at hu
      obtain rfl := (Option.some.inj hu).symm
      clear hset hu hso
      cases hB : s[k] with
      | false =>
        rw [hB] at hcx
        have HP : Hid (placeOf l s (k + 1) = placeOf l s k) := hid (by rw [HPS.out, if_neg]; · rfl
                                                                       · rw [hkp, List.getElem?_eq_getElem hks, hB]; simp)
        clear hB hkp
        go_wp2
        go_roundw
        case rel => exact ⟨k + 1, by omega, by rw [HP.out], by go_num, HSO⟩
        case measure => simp [intOf]; omega
      | true =>
        rw [hB] at hcx
        by_cases ho : op = 1
        · subst ho
          have HP : Hid (placeOf l s (k + 1) = placeOf l s k) := hid (by rw [HPS.out, if_neg]; · rfl
                                                                         · rw [hkp]; simp)
          clear hB hkp
          go_wp2
          go_roundw
          case rel => exact ⟨k + 1, by omega, by rw [HP.out], by go_num, HSO⟩
          case measure => simp [intOf]; omega
        · have HP : Hid (placeOf l s (k + 1) = placeOf l s k + 1) := hid (by
            rw [HPS.out, if_pos]
            rw [hkp, List.getElem?_eq_getElem hks, hB]; simp [ho])
          have hob : (op == 1) = false := by simp [ho]
          have hom : (op != 1) = true := by simp [ho]
          clear hB hkp
          go_wp2
          go_roundw
          case rel => exact ⟨k + 1, by omega, by rw [HP.out]; go_num, by go_num, HSO⟩
          case measure => simp [intOf]; omega
    · obtain rfl : k = l.length := by omega
      obtain ⟨g0, cap0, u0, hv0, hg0, hcu, hfz, hset⟩ := HR.out.store (i := l.length) (by omega)
      simp only [Value.slice.injEq, Option.some.injEq, Addr.mk.injEq] at hv0
      obtain ⟨⟨rfl, _, _⟩, _, rfl⟩ := hv0
      have hso := hset (.int .i64 (placeOf l s l.length : Nat))
      rw [show ((plL l s (l.length + 1) l.length).map (Value.int .i64)).set l.length (.int .i64 (placeOf l s l.length : Nat)) = nats (placesL l s) from by rw [← plL_all, ← plL_set (by omega), List.map_set]] at hso
      have HSO := hid hso
      have HLN := hid (placesL_len l s)
      clear hset hso
      go_wp2
      go_ret
      exact ⟨_, rfl, by rw [HLN.out]; exact HSO.out⟩

end Go.Proofs.YtdnnnjedobknhaaDoor.trims
