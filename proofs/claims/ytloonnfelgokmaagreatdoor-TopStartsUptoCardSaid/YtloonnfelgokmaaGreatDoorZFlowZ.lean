/- Lists of instructions in memory; what is wrong with code, plainly. No condition. -/
import Derived.Test.YtloonnfelgokmaaGreatDoorZInsZ
import Derived.Test.YtloonnfelgokmaaGreatDoorZErrV
import Derived.Test.YtloonnfelgokmaaGreatDoorZIns6
import Derived.Test.YtloonnfelgokmaaGreatDoorZOwn
import Derived.Test.YtloonnfelgokmaaGreatDoorZReach
set_option maxRecDepth 100000
set_option maxHeartbeats 16000000
set_option linter.unusedSimpArgs false
set_option linter.unusedVariables false
namespace Go.Proofs.YtloonnfelgokmaaGreatDoor.flows
open Go.RowKit lib errs names descs ins
abbrev cellsOf (l : List I) : List Value := l.flatMap I.cells
theorem cells_len (l : List I) : (cellsOf l).length = l.length * 6 := by
 induction l with
 | nil => rfl
 | cons x l ih => rw [cellsOf, List.flatMap_cons, List.length_append, List.length_cons]; rw [cellsOf] at ih; rw [ih]; show 6 + _ = _; omega
theorem cells_at : ∀ (l : List I) (k j : Nat) (hk : k < l.length), j < 6 → (cellsOf l)[k * 6 + j]? = l[k].cells[j]?
 | x :: l, 0, j, _, hj => by
  rw [cellsOf, List.flatMap_cons, List.getElem?_append_left (by show 0 * 6 + j < 6; omega), Nat.zero_mul, Nat.zero_add]; rfl
 | x :: l, k + 1, j, hk, hj => by
  rw [cellsOf, List.flatMap_cons, List.getElem?_append_right (by show 6 ≤ (k + 1) * 6 + j; omega)]
  have := cells_at l k j (by simpa using hk) hj
  rw [cellsOf] at this
  rw [show (k + 1) * 6 + j - x.cells.length = k * 6 + j from by show (k + 1) * 6 + j - 6 = _; omega, this]
  simp
abbrev Code (w : World) (v : Value) (l : List I) : Prop := Sl w v l.length 6 (cellsOf l)
theorem code_at {w : World} {a : Option Addr} {n c : Nat} {l : List I} (h : Code w (.slice a n c) l) {k : Nat} (hk : k < l.length) :
  ∃ b off, a = some ⟨b, off, none⟩ ∧ w.cell? ⟨b, off + k * 6, none⟩ = some (.int .i64 l[k].op) ∧ w.cell? ⟨b, off + k * 6 + 1, none⟩ = some (.int .i64 l[k].a) ∧ w.cell? ⟨b, off + k * 6 + 2, none⟩ = some (.int .i64 l[k].b) ∧
   w.cell? ⟨b, off + k * 6 + 3, none⟩ = some (.string l[k].t) ∧ w.cell? ⟨b, off + k * 6 + 4, none⟩ = some (.string l[k].c) ∧ w.cell? ⟨b, off + k * 6 + 5, none⟩ = some (.string l[k].n) := by
 obtain ⟨_, a', c', he, _, h⟩ := h
 simp only [Value.slice.injEq] at he
 obtain ⟨rfl, _, _⟩ := he
 rcases h with h | ⟨b, off, rfl, h⟩
 ·have := cells_len l
  rw [h] at this
  simp at this; omega
 ·have key : ∀ j, j < 6 → ∀ u, l[k].cells[j]? = some u → w.cell? ⟨b, off + k * 6 + j, none⟩ = some u := fun j hj u hu => by
   rw [Nat.add_assoc]
   exact h _ u (by rw [cells_at l k j hk hj]; exact hu)
  exact ⟨b, off, rfl, key 0 (by decide) _ rfl, key 1 (by decide) _ rfl, key 2 (by decide) _ rfl, key 3 (by decide) _ rfl, key 4 (by decide) _ rfl, key 5 (by decide) _ rfl⟩
def Small (x : I) : Prop := x.t.size ≤ 10000000 ∧ x.c.size ≤ 9223372036854775807 ∧ x.n.size ≤ 9223372036854775807
def badIns : List I → Int
 | [] => 0
 | x :: r => if insFault x = 0 then badIns r else insFault x
def jumpsOut (n : Nat) : List I → Bool
 | [] => false
 | x :: r => if jumpsOp x.op = true ∧ (n : Int) ≤ x.a then true else jumpsOut n r
def lastEnds (l : List I) : Bool := match l.getLast? with | none => false | some x => endsOp x.op
def codeFault (l : List I) : Int :=
 if 40 < l.length then 4 else if badIns l ≠ 0 then badIns l else if jumpsOut l.length l = true then 2 else if lastEnds l = true then 0 else 8
theorem bad_ok {l : List I} {k : Nat} (hk : k < l.length) (h : insFault l[k] = 0) : badIns (l.drop k) = badIns (l.drop (k + 1)) := by rw [List.drop_eq_getElem_cons hk, badIns, if_pos h]
theorem bad_no {l : List I} {k : Nat} (hk : k < l.length) (h : ¬ insFault l[k] = 0) : badIns (l.drop k) = insFault l[k] := by rw [List.drop_eq_getElem_cons hk, badIns, if_neg h]
theorem bad_end {l : List I} {k : Nat} (hk : ¬ k < l.length) : badIns (l.drop k) = 0 := by rw [List.drop_eq_nil_of_le (by omega)]; rfl
theorem out_ok {m : Nat} {l : List I} {k : Nat} (hk : k < l.length) (h : ¬ (jumpsOp l[k].op = true ∧ (m : Int) ≤ l[k].a)) : jumpsOut m (l.drop k) = jumpsOut m (l.drop (k + 1)) := by rw [List.drop_eq_getElem_cons hk, jumpsOut, if_neg h]
theorem out_no {m : Nat} {l : List I} {k : Nat} (hk : k < l.length) (h : jumpsOp l[k].op = true ∧ (m : Int) ≤ l[k].a) : jumpsOut m (l.drop k) = true := by rw [List.drop_eq_getElem_cons hk, jumpsOut, if_pos h]
theorem out_end {m : Nat} {l : List I} {k : Nat} (hk : ¬ k < l.length) : jumpsOut m (l.drop k) = false := by rw [List.drop_eq_nil_of_le (by omega)]; rfl
theorem errVal_ne {e : Int} (h : ¬ e = 0) : errVal e = .iface 53 (.int .i64 e) := by unfold errVal; rw [if_neg h]
theorem errVal_zero {e : Int} (h : e = 0) : errVal e = .nilIface := by unfold errVal; rw [if_pos h]
theorem last_at {l : List I} {k : Nat} (h : l.length = k + 1) : lastEnds l = endsOp (l[k]'(by omega)).op := by
 unfold lastEnds
 rw [List.getLast?_eq_getElem?, show l.length - 1 = k by omega, List.getElem?_eq_getElem (by omega)]
end Go.Proofs.YtloonnfelgokmaaGreatDoor.flows
namespace Go.Proofs.YtloonnfelgokmaaGreatDoor.ins
open Go.RowKit lib errs names descs
theorem ends_any (op : Int) (w : World) : Calls Tryz.prog 62 #[.int .i64 op] w fun e w' => e = .returned (.bool (endsOp op)) ∧ w = w' := by
 go_enter Tryz.func62, Tryz.ntmps62
 go_wp2
 all_goals go_ret
 all_goals exact ⟨by first | rfl | simp_all [endsOp], rfl⟩
end Go.Proofs.YtloonnfelgokmaaGreatDoor.ins
namespace Go.Proofs.YtloonnfelgokmaaGreatDoor.flows
open Go.RowKit lib errs names descs ins
theorem fcheck_any (va : Value) (l : List I) (w : World) (ha : Code w va l) (hf : FormsAt w) (hs : ∀ x ∈ l, Small x) (hn : l.length ≤ 1000000000000) :
  Calls Tryz.prog 31 #[va] w fun e w' => e = .returned (errVal (codeFault l)) ∧ Below w.heap.size w w' := by
 obtain ⟨a, c, rfl⟩ := ha.val
 have HA := hid ha; have HF := hid hf; have HS := hid hs
 clear ha hf hs
 by_cases h40 : 40 < l.length
 ·have HZ : Hid (codeFault l = 4) := hid (by unfold codeFault; rw [if_pos h40])
  have k40 : (40 : Int) < (l.length : Int) := by omega
  go_enter Tryz.func31, Tryz.ntmps31
  go_wp2
  go_ret
  rw [HZ.out, errVal_ne (by decide)]
  exact ⟨rfl, Below.refl _ _⟩
 ·have k40 : ¬ (40 : Int) < (l.length : Int) := by omega
  have HZ : Hid (codeFault l = if badIns l ≠ 0 then badIns l else if jumpsOut l.length l = true then 2 else if lastEnds l = true then 0 else 8) := hid (by unfold codeFault; rw [if_neg h40])
  go_enter Tryz.func31, Tryz.ntmps31
  go_wp2_with fail
  go_loopw [14] (fun i wr => ∃ k : Nat, k ≤ l.length ∧ i = .int .i64 k ∧ Hid (Below w.heap.size w wr) ∧ Hid (badIns l = badIns (l.drop k))) (fun i _ => l.length - (intOf i).toNat)
  case atStart => exact ⟨0, Nat.zero_le _, rfl, hid (Below.refl _ _), hid rfl⟩
  case round =>
   obtain ⟨k, hk, rfl, HR, HP⟩ := hrel
   by_cases hlt : k < l.length
   ·have hi : (0 : Int) ≤ (k : Int) := by omega
    have hkl : (k : Int) < (l.length : Int) := by omega
    obtain ⟨b, off, hab, hc0, hc1, hc2, hc3, hc4, hc5⟩ := code_at (HA.out.below HR.out) hlt
    subst hab
    obtain ⟨hs1, hs2, hs3⟩ := HS.out _ (List.getElem_mem hlt)
    have HOK := hid (fun h => HP.out.trans (bad_ok hlt h))
    have HNO := hid (fun h => HP.out.trans (bad_no hlt h))
    generalize l[k] = x at hc0 hc1 hc2 hc3 hc4 hc5 hs1 hs2 hs3 HOK HNO
    obtain ⟨op, xa, xb, t, xc, xn⟩ := x
    have HB := hid (HR.out.alloc HR.out.size (.cells #[.int .i64 op, .int .i64 xa, .int .i64 xb, .string t, .string xc, .string xn] 56))
    go_wp2_with fail
    refine (icheck_any op xa xb t xc xn _ (HF.out.below HB.out) hs1 hs2 hs3).mono ?_
    rintro e w1 ⟨rfl, hb1⟩
    have HB1 := hid (HB.out.trans (hb1.mono HB.out.size))
    clear hb1
    by_cases he : insFault ⟨op, xa, xb, t, xc, xn⟩ = 0
    ·have HN := hid (HOK.out he)
     rw [errVal_zero he]
     clear he
     go_wp2
     go_roundw
     case rel => exact ⟨k + 1, by omega, by go_num, HB1, HN⟩
     case measure => simp [intOf]; omega
    ·have HY : Hid (codeFault l = insFault ⟨op, xa, xb, t, xc, xn⟩) := hid (by rw [HZ.out, HNO.out he, if_pos he])
     rw [errVal_ne he]
     have HE := hid (errVal_ne he)
     clear he
     go_wp2
     go_ret
     rw [HY.out, HE.out]
     exact ⟨rfl, HB1.out⟩
   ·have HG : Hid (badIns l = 0) := hid (HP.out.trans (bad_end hlt))
    have HR1 := HR
    clear hk HP HR
    go_wp2_with fail
    go_loopw [26] (fun i wr2 => ∃ k : Nat, k ≤ l.length ∧ i = .int .i64 k ∧ Hid (Below w.heap.size w wr2) ∧ Hid (jumpsOut l.length l = jumpsOut l.length (l.drop k))) (fun i _ => l.length - (intOf i).toNat)
    case atStart => exact ⟨0, Nat.zero_le _, rfl, HR1, hid rfl⟩
    case round =>
     obtain ⟨k, hk, rfl, HR, HP⟩ := hrel
     by_cases hlt : k < l.length
     ·have hi : (0 : Int) ≤ (k : Int) := by omega
      have hkl : (k : Int) < (l.length : Int) := by omega
      obtain ⟨b, off, hab, hc0, hc1, hc2, hc3, hc4, hc5⟩ := code_at (HA.out.below HR.out) hlt
      subst hab
      have HOK := hid (fun h => HP.out.trans (out_ok (m := l.length) hlt h))
      have HNO := hid (fun h => HP.out.trans (out_no (m := l.length) hlt h))
      generalize l[k] = x at hc0 hc1 hc2 hc3 hc4 hc5 HOK HNO
      obtain ⟨op, xa, xb, t, xc, xn⟩ := x
      have HB := hid (HR.out.alloc HR.out.size (.cells #[.int .i64 op, .int .i64 xa, .int .i64 xb, .string t, .string xc, .string xn] 56))
      go_wp2_with fail
      refine (jumps_any op _).mono ?_
      rintro e w1 ⟨rfl, rfl⟩
      cases hj : jumpsOp op with
      | false =>
       have HN := hid (HOK.out (fun h => by rw [hj] at h; cases h.1))
       clear hj
       go_wp2
       go_roundw
       case rel => exact ⟨k + 1, by omega, by go_num, HB, HN⟩
       case measure => simp [intOf]; omega
      | true =>
       by_cases hx : (l.length : Int) ≤ xa
       ·have HY : Hid (codeFault l = 2) := hid (by rw [HZ.out, if_neg (by rw [HG.out]; decide), if_pos (HNO.out ⟨hj, hx⟩)])
        clear hj
        go_wp2
        go_ret
        rw [HY.out]
        exact ⟨rfl, HB.out⟩
       ·have HN := hid (HOK.out (fun h => hx h.2))
        clear hj
        go_wp2
        go_roundw
        case rel => exact ⟨k + 1, by omega, by go_num, HB, HN⟩
        case measure => simp [intOf]; omega
     ·have HJ : Hid (jumpsOut l.length l = false) := hid (HP.out.trans (out_end hlt))
      clear hk HP
      by_cases h0 : l.length = 0
      ·have HY : Hid (codeFault l = 8) := hid (by
        have hl : l = [] := List.eq_nil_of_length_eq_zero h0
        subst hl; rfl)
       have h0i : ((l.length : Int) == 0) = true := by rw [h0]; rfl
       have H0 := hid h0
       clear h0
       go_wp2
       go_ret
       rw [HY.out]
       exact ⟨rfl, HR.out⟩
      ·obtain ⟨m, hm⟩ : ∃ m, l.length = m + 1 := ⟨l.length - 1, by omega⟩
       have hml : m < l.length := by omega
       have hm0 : ¬ l = [] := fun h => h0 (by rw [h]; rfl)
       have hm0b : ((l.length : Int) == 0) = false := by simp [hm0]
       have hmi : (l.length : Int) - 1 = (m : Int) := by omega
       have hm1 : (0 : Int) ≤ (m : Int) := by omega
       have hm2 : (m : Int) < (l.length : Int) := by omega
       have HL := hid (last_at hm)
       obtain ⟨b, off, hab, hc0, hc1, hc2, hc3, hc4, hc5⟩ := code_at (HA.out.below HR.out) hml
       subst hab
       generalize l[m] = x at hc0 hc1 hc2 hc3 hc4 hc5 HL
       obtain ⟨op, xa, xb, t, xc, xn⟩ := x
       clear hm hml h0
       go_wp2_with fail
       refine (ends_any op _).mono ?_
       rintro e w1 ⟨rfl, rfl⟩
       cases hE : endsOp op with
       | true =>
        have HY : Hid (codeFault l = 0) := hid (by rw [HZ.out, if_neg (by rw [HG.out]; decide), if_neg (by rw [HJ.out]; decide), if_pos (by rw [HL.out]; exact hE)])
        clear hE
        go_wp2
        go_ret
        rw [HY.out]
        exact ⟨rfl, HR.out⟩
       | false =>
        have HY : Hid (codeFault l = 8) := hid (by rw [HZ.out, if_neg (by rw [HG.out]; decide), if_neg (by rw [HJ.out]; decide), if_neg (by rw [HL.out, hE]; decide)])
        clear hE
        go_wp2
        go_ret
        rw [HY.out]
        exact ⟨rfl, HR.out⟩
def afterOf (x : I) (k : Nat) : List Int :=
 (if endsOp x.op = true then [] else [(k : Int) + 1]) ++ (if jumpsOp x.op = true ∧ (x.op = 14 ∨ x.a ≠ (k : Int) + 1) then [x.a] else [])
theorem ends_jumps {op : Int} (h1 : endsOp op = true) (h2 : jumpsOp op = true) : op = 14 := by
 simp [endsOp, jumpsOp] at h1 h2; omega
theorem goes_on {op : Int} (h1 : endsOp op = false) : op ≠ 14 := by
 simp [endsOp] at h1; omega
theorem infoInt : (Tryz.prog.info? 3).map (fun i => (i.zero, i.size, i.bytes)) = some (some (.int .i64 0), 1, 8) := by kernel_rfl
theorem Out.nil_at {w w' : World} (hb : Below w.heap.size w w') (e : TypeId) (size : Nat) : Out w w' e size (.slice none 0 0) 0 [] := ⟨World.ownsRow_nil _ _ _ _, hb⟩
theorem _root_.Go.Proofs.YtloonnfelgokmaaGreatDoor.ins.Box.grown {w w' : World} {B n c : Nat} {x : I} (h : Box w B x) (hg : w.grownBy w' (Value.slice none n c).ownBlock) : Box w' B x := by
 obtain ⟨h0, h1, h2, h3, h4, h5⟩ := h
 refine ⟨?_, ?_, ?_, ?_, ?_, ?_⟩
 all_goals (first | exact hg.cell h0 (by intro h; cases h) | exact hg.cell h1 (by intro h; cases h) | exact hg.cell h2 (by intro h; cases h) | exact hg.cell h3 (by intro h; cases h) | exact hg.cell h4 (by intro h; cases h) | exact hg.cell h5 (by intro h; cases h))
def Gives (w : World) (zs : List Int) (e : Ending) (w' : World) : Prop := ∃ v, e = .returned v ∧ Out w w' 3 1 v zs.length (zs.map (.int .i64))
theorem after_any (va : Value) (l : List I) (k : Nat) (w : World) (ha : Code w va l) (hk : k < l.length) (hn : l.length ≤ 1000000000000) :
  Calls Tryz.prog 120 #[va, .int .i64 (k : Int)] w (Gives w (afterOf l[k] k)) := by
 obtain ⟨a, c, rfl⟩ := ha.val
 obtain ⟨b, off, hab, hc0, hc1, hc2, hc3, hc4, hc5⟩ := code_at ha hk
 subst hab
 have hi : (0 : Int) ≤ (k : Int) := by omega
 have hkl : (k : Int) < (l.length : Int) := by omega
 generalize l[k] = x at hc0 hc1 hc2 hc3 hc4 hc5
 obtain ⟨op, xa, xb, t, xc, xn⟩ := x
 have HB := hid (ext_alloc w (.cells #[.int .i64 op, .int .i64 xa, .int .i64 xb, .string t, .string xc, .string xn] 56))
 have HN := hid (Out.nil_at HB.out 3 1)
 have HBX := hid (Box.new w (⟨op, xa, xb, t, xc, xn⟩ : I) 56)
 clear ha
 cases hE : endsOp op with
 | true =>
  cases hJ : jumpsOp op with
  | true =>
   obtain rfl := ends_jumps hE hJ
   have HZ : Hid (afterOf ⟨14, xa, xb, t, xc, xn⟩ k = [xa]) := hid (by simp [afterOf, endsOp, jumpsOp])
   clear hE hJ
   go_enter Tryz.func120, Tryz.ntmps120
   go_wp2_with fail
   refine (ends_any 14 _).mono ?_
   rintro e w1 ⟨rfl, rfl⟩
   rw [show endsOp 14 = true from rfl]
   go_wp2_with fail
   refine (jumps_any 14 _).mono ?_
   rintro e w1 ⟨rfl, rfl⟩
   rw [show jumpsOp 14 = true from rfl]
   go_wp2_with (at_builtin; refine wpList_append_lit_b w _ _ _ rfl _ _ 88 rfl 3 (.int .i64 0) 1 8 1 Tryz.underlying88 infoInt rfl (by decide) _ _ _ HN.out rfl rfl ?_ rfl ?_ ?_ ?_ ?_)
   all_goals first | (intro v1 w1 ho1 hg1 _) | omega | (simp [Value.oneCell']; done) | skip
   go_wp2
   go_ret
   exact ⟨_, rfl, by rw [HZ.out]; exact ho1⟩
  | false =>
   have HZ : Hid (afterOf ⟨op, xa, xb, t, xc, xn⟩ k = []) := hid (by simp [afterOf, hE, hJ])
   have HE := hid hE; have HJ := hid hJ
   clear hE hJ
   go_enter Tryz.func120, Tryz.ntmps120
   go_wp2_with fail
   refine (ends_any op _).mono ?_
   rintro e w1 ⟨rfl, rfl⟩
   rw [HE.out]
   go_wp2_with fail
   refine (jumps_any op _).mono ?_
   rintro e w1 ⟨rfl, rfl⟩
   rw [HJ.out]
   go_wp2
   go_ret
   exact ⟨_, rfl, by rw [HZ.out]; exact HN.out⟩
 | false =>
  have h14 := goes_on hE
  have h14b : (op == 14) = false := by simp [h14]
  cases hJ : jumpsOp op with
  | true =>
   by_cases hx : xa = (k : Int) + 1
   ·have HZ : Hid (afterOf ⟨op, xa, xb, t, xc, xn⟩ k = [(k : Int) + 1]) := hid (by simp [afterOf, hE, hJ, hx, h14])
    have HE := hid hE; have HJ := hid hJ
    clear hE hJ
    subst hx
    go_enter Tryz.func120, Tryz.ntmps120
    go_wp2_with fail
    refine (ends_any op _).mono ?_
    rintro e w1 ⟨rfl, rfl⟩
    rw [HE.out]
    go_wp2_with (at_builtin; refine wpList_append_lit_b w _ _ _ rfl _ _ 88 rfl 3 (.int .i64 0) 1 8 1 Tryz.underlying88 infoInt rfl (by decide) _ _ _ HN.out rfl rfl ?_ rfl ?_ ?_ ?_ ?_)
    all_goals first | (intro v1 w1 ho1 hg1 _) | omega | (simp [Value.oneCell']; done) | skip
    have HO1 := hid ho1
    obtain ⟨c0, c1, c2, c3, c4, c5⟩ := HBX.out.grown hg1
    clear ho1
    go_wp2_with fail
    refine (jumps_any op _).mono ?_
    rintro e w2 ⟨rfl, rfl⟩
    rw [HJ.out]
    go_wp2
    go_ret
    exact ⟨_, rfl, by rw [HZ.out]; exact HO1.out⟩
   ·have HZ : Hid (afterOf ⟨op, xa, xb, t, xc, xn⟩ k = [(k : Int) + 1, xa]) := hid (by simp [afterOf, hE, hJ, hx])
    have HE := hid hE; have HJ := hid hJ
    have hxb : (xa == (k : Int) + 1) = false := by simp [hx]
    have hxm : (xa != (k : Int) + 1) = true := by simp [hx]
    clear hE hJ
    go_enter Tryz.func120, Tryz.ntmps120
    go_wp2_with fail
    refine (ends_any op _).mono ?_
    rintro e w1 ⟨rfl, rfl⟩
    rw [HE.out]
    go_wp2_with (at_builtin; refine wpList_append_lit_b w _ _ _ rfl _ _ 88 rfl 3 (.int .i64 0) 1 8 1 Tryz.underlying88 infoInt rfl (by decide) _ _ _ HN.out rfl rfl ?_ rfl ?_ ?_ ?_ ?_)
    all_goals first | (intro v1 w1 ho1 hg1 _) | omega | (simp [Value.oneCell']; done) | skip
    have HO1 := hid ho1
    obtain ⟨c0, c1, c2, c3, c4, c5⟩ := HBX.out.grown hg1
    clear ho1
    go_wp2_with fail
    refine (jumps_any op _).mono ?_
    rintro e w2 ⟨rfl, rfl⟩
    rw [HJ.out]
    go_wp2_with (at_builtin; refine wpList_append_lit_b w _ _ _ rfl _ _ 88 rfl 3 (.int .i64 0) 1 8 1 Tryz.underlying88 infoInt rfl (by decide) _ _ _ HO1.out rfl rfl ?_ rfl ?_ ?_ ?_ ?_)
    all_goals first | (intro v2 w2 ho2 hg2 _) | omega | (simp [Value.oneCell']; done) | skip
    go_wp2
    go_ret
    exact ⟨_, rfl, by rw [HZ.out]; exact ho2⟩
  | false =>
   have HZ : Hid (afterOf ⟨op, xa, xb, t, xc, xn⟩ k = [(k : Int) + 1]) := hid (by simp [afterOf, hE, hJ])
   have HE := hid hE; have HJ := hid hJ
   clear hE hJ
   go_enter Tryz.func120, Tryz.ntmps120
   go_wp2_with fail
   refine (ends_any op _).mono ?_
   rintro e w1 ⟨rfl, rfl⟩
   rw [HE.out]
   go_wp2_with (at_builtin; refine wpList_append_lit_b w _ _ _ rfl _ _ 88 rfl 3 (.int .i64 0) 1 8 1 Tryz.underlying88 infoInt rfl (by decide) _ _ _ HN.out rfl rfl ?_ rfl ?_ ?_ ?_ ?_)
   all_goals first | (intro v1 w1 ho1 hg1 _) | omega | (simp [Value.oneCell']; done) | skip
   have HO1 := hid ho1
   obtain ⟨c0, c1, c2, c3, c4, c5⟩ := HBX.out.grown hg1
   clear ho1
   go_wp2_with fail
   refine (jumps_any op _).mono ?_
   rintro e w2 ⟨rfl, rfl⟩
   rw [HJ.out]
   go_wp2
   go_ret
   exact ⟨_, rfl, by rw [HZ.out]; exact HO1.out⟩
open Go.RowKit lib errs names descs ins reach
theorem snoc_of {todo : List Nat} {q : Nat} (h : todo.length = q + 1) : todo = todo.take q ++ [todo[q]'(by omega)] := by
 conv => lhs; rw [← List.take_append_drop q todo]
 rw [List.drop_eq_getElem_cons (by omega), List.drop_eq_nil_of_le (by omega)]
end Go.Proofs.YtloonnfelgokmaaGreatDoor.flows
