/- Types of methods, changed: the closure of mtype.Permute. Condition: the texts are not long. -/
import Derived.Test.YtikkhjcocmihlaaDoorDesc7
namespace Go.Proofs.YtikkhjcocmihlaaDoor.mtypes
open Go.RowKit Go.Proofs.YtikkhjcocmihlaaDoor.lib Go.Proofs.YtikkhjcocmihlaaDoor.errs Go.Proofs.YtikkhjcocmihlaaDoor.names Go.Proofs.YtikkhjcocmihlaaDoor.texts Go.Proofs.YtikkhjcocmihlaaDoor.descs

theorem sl_sv {w : World} {a : Option Addr} {n c : Nat} {ts : List (List UInt8)} (h : Sl w (.slice a n c) n 1 (ts.map sv)) {k : Nat} (hk : k < ts.length) :
    ∃ b off, a = some ⟨b, off, none⟩ ∧ w.cell? ⟨b, off + k, none⟩ = some (.string (bs ts[k])) := by
  rw [sv_map] at h
  obtain ⟨b, off, h1, h2⟩ := sl_strs h (k := k) (by rw [List.length_map]; exact hk)
  exact ⟨b, off, h1, by rw [h2, List.getElem_map]⟩

/-- what is wrong with a permutation; 0: nothing -/
def permErr (ms : List (List UInt8)) : List Int → List (List UInt8) → Int
  | z :: zs, t :: ts => if z < 0 ∨ (ms.length : Int) ≤ z then 2 else if ms[z.toNat]? = some t then permErr ms zs ts else 7
  | _, _ => 0

theorem drop_cons {α : Type} {l : List α} {k : Nat} (h : k < l.length) : l.drop k = l[k] :: l.drop (k + 1) := List.drop_eq_getElem_cons h
theorem perm_range {ms ts : List (List UInt8)} {zs : List Int} {k : Nat} (h1 : k < zs.length) (h2 : k < ts.length) (hz : zs[k] < 0 ∨ (ms.length : Int) ≤ zs[k]) : permErr ms (zs.drop k) (ts.drop k) = 2 := by
  rw [drop_cons h1, drop_cons h2, permErr, if_pos hz]
theorem perm_type {ms ts : List (List UInt8)} {zs : List Int} {k j : Nat} (h1 : k < zs.length) (h2 : k < ts.length) (hz : zs[k] = (j : Int)) (hj : j < ms.length) (ht : ¬ ms[j] = ts[k]) : permErr ms (zs.drop k) (ts.drop k) = 7 := by
  rw [drop_cons h1, drop_cons h2, permErr, if_neg (by omega), if_neg]
  rw [hz, Int.toNat_natCast, List.getElem?_eq_getElem hj]
  exact fun h => ht (Option.some.inj h)
theorem perm_step {ms ts : List (List UInt8)} {zs : List Int} {k j : Nat} (h1 : k < zs.length) (h2 : k < ts.length) (hz : zs[k] = (j : Int)) (hj : j < ms.length) (ht : ms[j] = ts[k]) : permErr ms (zs.drop k) (ts.drop k) = permErr ms (zs.drop (k + 1)) (ts.drop (k + 1)) := by
  rw [drop_cons h1, drop_cons h2, permErr, if_neg (by omega), if_pos]
  rw [hz, Int.toNat_natCast, List.getElem?_eq_getElem hj, ht]
theorem perm_end {ms ts : List (List UInt8)} {zs : List Int} {k : Nat} (h : zs.length ≤ k) : permErr ms (zs.drop k) (ts.drop k) = 0 := by
  rw [List.drop_eq_nil_of_le h, permErr]
  intro z zs t ts h; cases h

/-- the closure's answer -/
def PermBy (w : World) (A : List UInt8) (ts : List (List UInt8)) (zs : List Int) (e : Ending) (w' : World) : Prop :=
  Below w.heap.size w w' ∧ match methodOf A with
  | none => e = .returned (.tuple #[.slice none 0 0, .iface 39 (.int .i64 1)])
  | some (ms, _) => if zs.length = ts.length then
      if permErr ms zs ts = 0 then ∃ v, e = .returned (.tuple #[v, .nilIface]) ∧ Sl w' v ms.length 1 (ms.map sv)
      else e = .returned (.tuple #[.slice none 0 0, .iface 39 (.int .i64 (permErr ms zs ts))])
    else e = .returned (.tuple #[.slice none 0 0, .iface 39 (.int .i64 8)])
theorem permBy_none {w w' : World} {A : List UInt8} {ts : List (List UInt8)} {zs : List Int} (h : methodOf A = none) (hb : Below w.heap.size w w') : PermBy w A ts zs (.returned (.tuple #[.slice none 0 0, .iface 39 (.int .i64 1)])) w' := by
  refine ⟨hb, ?_⟩; rw [h]
theorem permBy_len {w w' : World} {A g : List UInt8} {ts ms : List (List UInt8)} {zs : List Int} (h : methodOf A = some (ms, g)) (hl : ¬ zs.length = ts.length) (hb : Below w.heap.size w w') : PermBy w A ts zs (.returned (.tuple #[.slice none 0 0, .iface 39 (.int .i64 8)])) w' := by
  refine ⟨hb, ?_⟩; rw [h]; simp only; rw [if_neg hl]; trivial
theorem permBy_err {w w' : World} {A g : List UInt8} {ts ms : List (List UInt8)} {zs : List Int} {z : Int} (h : methodOf A = some (ms, g)) (hl : zs.length = ts.length) (hp : permErr ms zs ts = z) (hz : z ≠ 0) (hb : Below w.heap.size w w') : PermBy w A ts zs (.returned (.tuple #[.slice none 0 0, .iface 39 (.int .i64 z)])) w' := by
  refine ⟨hb, ?_⟩; rw [h]; simp only; rw [if_pos hl, hp, if_neg hz]
theorem permBy_ok {w w' : World} {A g : List UInt8} {ts ms : List (List UInt8)} {zs : List Int} {v : Value} (h : methodOf A = some (ms, g)) (hl : zs.length = ts.length) (hp : permErr ms zs ts = 0) (hs : Sl w' v ms.length 1 (ms.map sv)) (hb : Below w.heap.size w w') : PermBy w A ts zs (.returned (.tuple #[v, .nilIface])) w' := by
  refine ⟨hb, ?_⟩; rw [h]; simp only; rw [if_pos hl, if_pos hp]; exact ⟨v, rfl, hs⟩

set_option maxRecDepth 100000 in
set_option maxHeartbeats 2000000 in
theorem perm_any (va vz : Value) (A : ByteArray) (ts : List (List UInt8)) (zs : List Int) (b1 b2 : Nat) (w : World) (ha : Sl w va ts.length 1 (ts.map sv)) (hz : Sl w vz zs.length 1 (zs.map (.int .i64))) (hA : A.size ≤ 10000000) (hn : ts.length ≤ 5)
    (hc1 : w.cell? ⟨b1, 0, none⟩ = some (.string A)) (hc2 : w.cell? ⟨b2, 0, none⟩ = some vz) :
    Calls Tryd.prog 53 #[va, .pointer (some ⟨b1, 0, none⟩), .pointer (some ⟨b2, 0, none⟩)] w (PermBy w A.data.toList ts zs) := by
  obtain ⟨a, c, rfl⟩ := ha.val
  obtain ⟨b, d, rfl⟩ := hz.val
  have HA := hid ha; have HZ := hid hz
  have hlt2 := World.block_lt_of_cell? w _ hc2
  have HC2 := hid hc2
  clear ha hz hc2
  cases hm : methodOf A.data.toList with
  | none =>
    have HM := hid hm
    clear hm
    go_enter Tryd.func53, Tryd.ntmps53
    go_wp2_with fail
    refine (method_any A _ hA).mono ?_
    intro e w1 h1
    obtain ⟨rfl, hb1⟩ := methodBy_none HM.out h1
    clear h1
    go_wp2_with fail
    go_ret2
    exact permBy_none HM.out hb1
  | some r =>
    obtain ⟨ms, g⟩ := r
    have HM := hid hm
    clear hm
    go_enter Tryd.func53, Tryd.ntmps53
    go_wp2_with fail
    refine (method_any A _ hA).mono ?_
    intro e w1 h1
    obtain ⟨v, rfl, ho⟩ := methodBy_some HM.out h1
    clear h1
    have HS := hid ho.sl
    have hb1 := ho.below
    obtain ⟨a1, c1, rfl⟩ := HS.out.val
    clear ho
    have HA1 := hid (HA.out.below hb1)
    have HZ1 := hid (HZ.out.below hb1)
    have hc2 : w1.cell? ⟨b2, 0, none⟩ = some (.slice b zs.length d) := by rw [hb1.cell hlt2]; exact HC2.out
    by_cases hl : zs.length = ts.length
    · have hl0 : ((zs.length : Int) == (ts.length : Int)) = true := by rw [hl]; simp
      go_wp2_with fail
      clear hc2 hc1
      go_loopw [28] (fun i wr => ∃ k : Nat, k ≤ zs.length ∧ i = .int .i64 k ∧ Hid (Below w1.heap.size w1 wr) ∧ Hid (permErr ms zs ts = permErr ms (zs.drop k) (ts.drop k))) (fun i _ => zs.length - (intOf i).toNat)
      case atStart => exact ⟨0, Nat.zero_le _, rfl, hid (Below.refl _ _), hid rfl⟩
      case round =>
        obtain ⟨k, hk, rfl, HR, HP⟩ := hrel
        have HBR := hid (hb1.trans (HR.out.mono hb1.size))
        by_cases hlt : k < zs.length
        · have hltt : k < ts.length := by omega
          obtain ⟨bz, oz, haz, hcz⟩ := (HZ1.out.below HR.out).ints hlt
          obtain ⟨bx, ox, hax, hcx⟩ := sl_sv (HA1.out.below HR.out) hltt
          subst haz
          subst hax
          have hi : (0 : Int) ≤ (k : Int) := by omega
          have hkl : (k : Int) < (zs.length : Int) := by omega
          have hkt : (k : Int) < (ts.length : Int) := by omega
          by_cases hz0 : zs[k] < 0
          · have HE := hid (perm_range (ms := ms) hlt hltt (.inl hz0))
            generalize zs[k] = z at hcz hz0
            go_wp2_with fail
            go_ret2
            exact permBy_err HM.out hl (HP.out.trans HE.out) (by decide) HBR.out
          · by_cases hz1 : (ms.length : Int) ≤ zs[k]
            · have HE := hid (perm_range hlt hltt (.inr hz1))
              generalize zs[k] = z at hcz hz0 hz1
              go_wp2_with fail
              go_ret2
              exact permBy_err HM.out hl (HP.out.trans HE.out) (by decide) HBR.out
            · obtain ⟨j, hj⟩ : ∃ j : Nat, zs[k] = (j : Int) := ⟨zs[k].toNat, by omega⟩
              have hjm : j < ms.length := by omega
              obtain ⟨bm, om, ham, hcm⟩ := sl_sv (HS.out.below HR.out) hjm
              subst ham
              have hj0 : (0 : Int) ≤ (j : Int) := by omega
              have hj1 : (j : Int) < (ms.length : Int) := by omega
              by_cases ht : ms[j] = ts[k]
              · have HE := hid (perm_step hlt hltt hj hjm ht)
                rw [hj] at hcz
                rw [← ht] at hcx
                generalize bs ms[j] = X at hcx hcm
                clear hz0 hz1 ht hj
                go_wp2_with fail
                go_quiet (fail)
                go_wp2
                go_roundw
                case rel => exact ⟨k + 1, by omega, by go_num, hid (below_drewN HR.out _), hid (HP.out.trans HE.out)⟩
                case measure => simp [intOf]; omega
              · have HE := hid (perm_type hlt hltt hj hjm ht)
                rw [hj] at hcz
                have hne : bs ms[j] ≠ bs ts[k] := fun h => ht (congrArg (fun x : ByteArray => x.data.toList) h)
                have hne1 := str_neb hne
                generalize bs ms[j] = X at hcm hne1
                generalize bs ts[k] = Y at hcx hne1
                have hne2 : ¬ X.toList = Y.toList := by rw [beq_eq_false_iff_ne] at hne1; exact hne1
                clear hz0 hz1 ht hj hne
                go_wp2_with fail
                go_quiet (fail)
                go_wp2
                go_ret2
                exact permBy_err HM.out hl (HP.out.trans HE.out) (by decide) (below_drewN HBR.out _)
        · have HE := hid (perm_end (ms := ms) (ts := ts) (Nat.le_of_not_lt hlt))
          have HS2 := hid (HS.out.below HR.out)
          go_wp2_with fail
          go_ret2
          exact permBy_ok HM.out hl (HP.out.trans HE.out) HS2.out HBR.out
    · have hl0 : ((zs.length : Int) == (ts.length : Int)) = false := beq_eq_false_iff_ne.2 (by omega)
      go_wp2_with fail
      go_ret2
      exact permBy_len HM.out hl hb1

end Go.Proofs.YtikkhjcocmihlaaDoor.mtypes
