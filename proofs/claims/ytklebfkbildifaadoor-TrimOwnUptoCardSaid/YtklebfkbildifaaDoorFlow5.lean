/- What comes next: flow.From. Conditions: no instruction goes on outside the code; the start's places are the code's. -/
import Derived.Test.YtklebfkbildifaaDoorOwn
import Derived.Test.YtklebfkbildifaaDoorReach
import Derived.Test.YtklebfkbildifaaDoorFlow1
namespace Go.Proofs.YtklebfkbildifaaDoor.flows
open Go.RowKit Go.Proofs.YtklebfkbildifaaDoor.lib Go.Proofs.YtklebfkbildifaaDoor.errs Go.Proofs.YtklebfkbildifaaDoor.names Go.Proofs.YtklebfkbildifaaDoor.descs Go.Proofs.YtklebfkbildifaaDoor.ins

/-- where an instruction at a place may go on -/
def afterOf (x : I) (k : Nat) : List Int :=
  (if endsOp x.op = true then [] else [(k : Int) + 1]) ++ (if jumpsOp x.op = true ∧ (x.op = 14 ∨ x.a ≠ (k : Int) + 1) then [x.a] else [])
theorem ends_jumps {op : Int} (h1 : endsOp op = true) (h2 : jumpsOp op = true) : op = 14 := by
  simp [endsOp, jumpsOp] at h1 h2; omega
theorem goes_on {op : Int} (h1 : endsOp op = false) : op ≠ 14 := by
  simp [endsOp] at h1; omega
theorem infoInt : (Tryd.prog.info? 3).map (fun i => (i.zero, i.size, i.bytes)) = some (some (.int .i64 0), 1, 8) := by kernel_rfl
theorem Out.nil_at {w w' : World} (hb : Below w.heap.size w w') (e : TypeId) (size : Nat) : Out w w' e size (.slice none 0 0) 0 [] := ⟨World.ownsRow_nil _ _ _ _, hb⟩
/-- behind an append to an empty slice the box is as it was -/
theorem _root_.Go.Proofs.YtklebfkbildifaaDoor.ins.Box.grown {w w' : World} {B n c : Nat} {x : I} (h : Box w B x) (hg : w.grownBy w' (Value.slice none n c).ownBlock) : Box w' B x := by
  obtain ⟨h0, h1, h2, h3, h4, h5⟩ := h
  refine ⟨?_, ?_, ?_, ?_, ?_, ?_⟩
  all_goals (first | exact hg.cell h0 (by intro h; cases h) | exact hg.cell h1 (by intro h; cases h) | exact hg.cell h2 (by intro h; cases h) | exact hg.cell h3 (by intro h; cases h) | exact hg.cell h4 (by intro h; cases h) | exact hg.cell h5 (by intro h; cases h))
/-- an own list of numbers, as an answer -/
def Gives (w : World) (zs : List Int) (e : Ending) (w' : World) : Prop := ∃ v, e = .returned v ∧ Out w w' 3 1 v zs.length (zs.map (.int .i64))

set_option maxRecDepth 100000 in
set_option maxHeartbeats 2000000 in
theorem after_any (va : Value) (l : List I) (k : Nat) (w : World) (ha : Code w va l) (hk : k < l.length) (hn : l.length ≤ 1000000000000) :
    Calls Tryd.prog 80 #[va, .int .i64 (k : Int)] w (Gives w (afterOf l[k] k)) := by
  obtain ⟨a, c, rfl⟩ := ha.val
  obtain ⟨b, off, hab, hc0, hc1, hc2, hc3, hc4, hc5⟩ := code_at ha hk
  subst hab
  have hi : (0 : Int) ≤ (k : Int) := by omega
  have hkl : (k : Int) < (l.length : Int) := by omega
  generalize l[k] = x at hc0 hc1 hc2 hc3 hc4 hc5
  obtain ⟨op, xa, xb, t, xc, xn⟩ := x
  have HB := hid (ext_alloc w (.cells #[.int .i64 op, .int .i64 xa, .int .i64 xb, .string t, .string xc, .string xn] 33))
  have HN := hid (Out.nil_at HB.out 3 1)
  have HBX := hid (Box.new w (⟨op, xa, xb, t, xc, xn⟩ : I) 33)
  clear ha
  cases hE : endsOp op with
  | true =>
    cases hJ : jumpsOp op with
    | true =>
      obtain rfl := ends_jumps hE hJ
      have HZ : Hid (afterOf ⟨14, xa, xb, t, xc, xn⟩ k = [xa]) := hid (by simp [afterOf, endsOp, jumpsOp])
      clear hE hJ
      go_enter Tryd.func80, Tryd.ntmps80
      go_wp2_with fail
      refine (ends_any 14 _).mono ?_
      rintro e w1 ⟨rfl, rfl⟩
      rw [show endsOp 14 = true from rfl]
      go_wp2_with fail
      refine (jumps_any 14 _).mono ?_
      rintro e w1 ⟨rfl, rfl⟩
      rw [show jumpsOp 14 = true from rfl]
      go_wp2_with (at_builtin; refine wpList_append_lit_b w _ _ _ rfl _ _ 46 rfl 3 (.int .i64 0) 1 8 1 Tryd.underlying46 infoInt rfl (by decide) _ _ _ HN.out rfl rfl ?_ rfl ?_ ?_ ?_ ?_)
      all_goals first | (intro v1 w1 ho1 hg1 _) | omega | (simp [Value.oneCell']; done) | skip
      go_wp2
      go_ret
      exact ⟨_, rfl, by rw [HZ.out]; exact ho1⟩
    | false =>
      have HZ : Hid (afterOf ⟨op, xa, xb, t, xc, xn⟩ k = []) := hid (by simp [afterOf, hE, hJ])
      have HE := hid hE; have HJ := hid hJ
      clear hE hJ
      go_enter Tryd.func80, Tryd.ntmps80
      go_wp2_with fail
      refine (ends_any op _).mono ?_
      rintro e w1 ⟨rfl, rfl⟩
      rw [HE.out]
      go_wp2_with fail
      refine (jumps_any op _).mono ?_
      rintro e w1 ⟨rfl, rfl⟩
      rw [HJ.out]
      go_wp2
      go_ret
      exact ⟨_, rfl, by rw [HZ.out]; exact HN.out⟩
  | false =>
    have h14 := goes_on hE
    have h14b : (op == 14) = false := by simp [h14]
    cases hJ : jumpsOp op with
    | true =>
      by_cases hx : xa = (k : Int) + 1
      · have HZ : Hid (afterOf ⟨op, xa, xb, t, xc, xn⟩ k = [(k : Int) + 1]) := hid (by simp [afterOf, hE, hJ, hx, h14])
        have HE := hid hE; have HJ := hid hJ
        clear hE hJ
        subst hx
        go_enter Tryd.func80, Tryd.ntmps80
        go_wp2_with fail
        refine (ends_any op _).mono ?_
        rintro e w1 ⟨rfl, rfl⟩
        rw [HE.out]
        go_wp2_with (at_builtin; refine wpList_append_lit_b w _ _ _ rfl _ _ 46 rfl 3 (.int .i64 0) 1 8 1 Tryd.underlying46 infoInt rfl (by decide) _ _ _ HN.out rfl rfl ?_ rfl ?_ ?_ ?_ ?_)
        all_goals first | (intro v1 w1 ho1 hg1 _) | omega | (simp [Value.oneCell']; done) | skip
        have HO1 := hid ho1
        obtain ⟨c0, c1, c2, c3, c4, c5⟩ := HBX.out.grown hg1
        clear ho1
        go_wp2_with fail
        refine (jumps_any op _).mono ?_
        rintro e w2 ⟨rfl, rfl⟩
        rw [HJ.out]
        go_wp2
        go_ret
        exact ⟨_, rfl, by rw [HZ.out]; exact HO1.out⟩
      · have HZ : Hid (afterOf ⟨op, xa, xb, t, xc, xn⟩ k = [(k : Int) + 1, xa]) := hid (by simp [afterOf, hE, hJ, hx])
        have HE := hid hE; have HJ := hid hJ
        have hxb : (xa == (k : Int) + 1) = false := by simp [hx]
        have hxm : (xa != (k : Int) + 1) = true := by simp [hx]
        clear hE hJ
        go_enter Tryd.func80, Tryd.ntmps80
        go_wp2_with fail
        refine (ends_any op _).mono ?_
        rintro e w1 ⟨rfl, rfl⟩
        rw [HE.out]
        go_wp2_with (at_builtin; refine wpList_append_lit_b w _ _ _ rfl _ _ 46 rfl 3 (.int .i64 0) 1 8 1 Tryd.underlying46 infoInt rfl (by decide) _ _ _ HN.out rfl rfl ?_ rfl ?_ ?_ ?_ ?_)
        all_goals first | (intro v1 w1 ho1 hg1 _) | omega | (simp [Value.oneCell']; done) | skip
        have HO1 := hid ho1
        obtain ⟨c0, c1, c2, c3, c4, c5⟩ := HBX.out.grown hg1
        clear ho1
        go_wp2_with fail
        refine (jumps_any op _).mono ?_
        rintro e w2 ⟨rfl, rfl⟩
        rw [HJ.out]
        go_wp2_with (at_builtin; refine wpList_append_lit_b w _ _ _ rfl _ _ 46 rfl 3 (.int .i64 0) 1 8 1 Tryd.underlying46 infoInt rfl (by decide) _ _ _ HO1.out rfl rfl ?_ rfl ?_ ?_ ?_ ?_)
        all_goals first | (intro v2 w2 ho2 hg2 _) | omega | (simp [Value.oneCell']; done) | skip
        go_wp2
        go_ret
        exact ⟨_, rfl, by rw [HZ.out]; exact ho2⟩
    | false =>
      have HZ : Hid (afterOf ⟨op, xa, xb, t, xc, xn⟩ k = [(k : Int) + 1]) := hid (by simp [afterOf, hE, hJ])
      have HE := hid hE; have HJ := hid hJ
      clear hE hJ
      go_enter Tryd.func80, Tryd.ntmps80
      go_wp2_with fail
      refine (ends_any op _).mono ?_
      rintro e w1 ⟨rfl, rfl⟩
      rw [HE.out]
      go_wp2_with (at_builtin; refine wpList_append_lit_b w _ _ _ rfl _ _ 46 rfl 3 (.int .i64 0) 1 8 1 Tryd.underlying46 infoInt rfl (by decide) _ _ _ HN.out rfl rfl ?_ rfl ?_ ?_ ?_ ?_)
      all_goals first | (intro v1 w1 ho1 hg1 _) | omega | (simp [Value.oneCell']; done) | skip
      have HO1 := hid ho1
      obtain ⟨c0, c1, c2, c3, c4, c5⟩ := HBX.out.grown hg1
      clear ho1
      go_wp2_with fail
      refine (jumps_any op _).mono ?_
      rintro e w2 ⟨rfl, rfl⟩
      rw [HJ.out]
      go_wp2
      go_ret
      exact ⟨_, rfl, by rw [HZ.out]; exact HO1.out⟩

end Go.Proofs.YtklebfkbildifaaDoor.flows

namespace Go.Proofs.YtklebfkbildifaaDoor.flows
open Go.RowKit Go.Proofs.YtklebfkbildifaaDoor.lib Go.Proofs.YtklebfkbildifaaDoor.errs Go.Proofs.YtklebfkbildifaaDoor.names Go.Proofs.YtklebfkbildifaaDoor.descs Go.Proofs.YtklebfkbildifaaDoor.ins Go.Proofs.YtklebfkbildifaaDoor.reach

def succOf (l : List I) (k : Nat) : List Nat := match l[k]? with | none => [] | some x => (afterOf x k).map Int.toNat
/-- nothing goes on outside -/
def Right (l : List I) : Prop := ∀ k (hk : k < l.length), ∀ z ∈ afterOf l[k] k, 0 ≤ z ∧ z < (l.length : Int)
theorem succ_at {l : List I} {k : Nat} (hk : k < l.length) : succOf l k = (afterOf l[k] k).map Int.toNat := by unfold succOf; rw [List.getElem?_eq_getElem hk]
theorem succ_lt {l : List I} (h : Right l) : ∀ k, k < l.length → ∀ j ∈ succOf l k, j < l.length := fun k hk j hj => by
  rw [succ_at hk] at hj
  obtain ⟨z, hz, rfl⟩ := List.mem_map.1 hj
  have := h k hk z hz
  omega
theorem succ_ints {l : List I} (h : Right l) {k : Nat} (hk : k < l.length) : afterOf l[k] k = (succOf l k).map (fun j : Nat => (j : Int)) := by
  rw [succ_at hk, List.map_map]
  conv => lhs; rw [← List.map_id (afterOf l[k] k)]
  apply List.map_congr_left
  intro z hz
  have := h k hk z hz
  simp; omega
theorem after_len (x : I) (k : Nat) : (afterOf x k).length ≤ 2 := by
  unfold afterOf; rw [List.length_append]; split <;> split <;> simp
def nats (js : List Nat) : List Value := (js.map (fun j : Nat => (j : Int))).map (.int .i64)
def bools (s : List Bool) : List Value := s.map .bool
theorem nats_len (js : List Nat) : (nats js).length = js.length := by simp [nats]
theorem nats_append (a b : List Nat) : nats (a ++ b) = nats a ++ nats b := by simp [nats]
theorem nats_take (a : List Nat) (m : Nat) : (nats a).take m = nats (a.take m) := by simp [nats, List.map_take]
theorem nats_at {a : List Nat} {k : Nat} (h : k < a.length) : (nats a)[k]? = some (.int .i64 (a[k] : Int)) := by simp [nats, h]
theorem bools_at {a : List Bool} {k : Nat} (h : k < a.length) : (bools a)[k]? = some (.bool a[k]) := by simp [bools, h]
theorem bools_set (a : List Bool) (k : Nat) : (bools a).set k (.bool true) = bools (a.set k true) := by simp [bools, List.map_set]
theorem infoBool : (Tryd.prog.info? 4).map (fun i => (i.zero, i.size, i.bytes)) = some (some (.bool false), 1, 1) := by kernel_rfl
theorem one_nats (js : List Nat) : ∀ u ∈ nats js, u.oneCell' = true := fun u hu => by
  simp only [nats, List.map_map, List.mem_map] at hu
  obtain ⟨j, _, rfl⟩ := hu
  rfl

theorem left_start (n : Nat) (fr : List Nat) : left (List.replicate n false) fr = 3 * n + fr.length := by
  unfold left; rw [List.countP_replicate]; simp

/-- between the rounds -/
structure FRel (w0 w : World) (l : List I) (fr : List Nat) (vs vt : Value) (m : Nat) (seen : List Bool) (todo : List Nat) : Prop where
  os : Out w0 w 4 1 vs l.length (bools seen)
  ot : Out w0 w 3 1 vt m (nats todo)
  ap : Apart vs vt
  td : Todo (succOf l) l.length fr seen todo
  lt : ∀ k ∈ todo, k < l.length
  few : left seen todo ≤ 3 * l.length + fr.length
theorem FRel.len {w0 w : World} {l : List I} {fr : List Nat} {vs vt : Value} {m : Nat} {seen : List Bool} {todo : List Nat} (h : FRel w0 w l fr vs vt m seen todo) : todo.length = m := by
  have := h.ot.own.1; rw [nats_len] at this; omega

/-- a list that ends in k -/
theorem snoc_of {todo : List Nat} {q : Nat} (h : todo.length = q + 1) : todo = todo.take q ++ [todo[q]'(by omega)] := by
  conv => lhs; rw [← List.take_append_drop q todo]
  rw [List.drop_eq_getElem_cons (by omega), List.drop_eq_nil_of_le (by omega)]

theorem FRel.skip {w0 w : World} {l : List I} {fr : List Nat} {vs : Value} {a : Option Addr} {m c q K : Nat} {seen : List Bool} {todo : List Nat} (h : FRel w0 w l fr vs (.slice a m c) m seen todo) (hq : m = q + 1) (hK : todo[q]? = some K) (hk : At seen K) :
    FRel w0 w l fr vs (.slice a q c) q seen (todo.take q) ∧ left seen (todo.take q) < left seen todo := by
  have hl := h.len
  obtain ⟨hql, rfl⟩ := List.getElem?_eq_some_iff.1 hK
  have hs := snoc_of (hl.trans hq)
  have htd := h.td
  have hlf : left seen (todo.take q) < left seen todo := by
    conv => rhs; rw [hs]
    exact left_skip _ _ _
  rw [hs] at htd
  refine ⟨⟨h.os, ?_, h.ap.cut, htd.skip hk, fun k hk => h.lt k (List.mem_of_mem_take hk), Nat.le_trans (Nat.le_of_lt hlf) h.few⟩, hlf⟩
  have := h.ot.cut (m := q) (by omega)
  rwa [Nat.mul_one, nats_take] at this
theorem FRel.take {w0 w w' : World} {l : List I} {fr : List Nat} {vs vt vt' : Value} {m q K : Nat} {seen : List Bool} {todo : List Nat} (h : FRel w0 w l fr vs vt m seen todo) (hR : Right l) (hq : m = q + 1) (hK : todo[q]? = some K) (hk : ¬ At seen K)
    (os : Out w0 w' 4 1 vs l.length (bools (seen.set K true))) (ot : Out w0 w' 3 1 vt' (q + (succOf l K).length) (nats (todo.take q ++ succOf l K))) (ap : Apart vs vt') :
    FRel w0 w' l fr vs vt' (q + (succOf l K).length) (seen.set K true) (todo.take q ++ succOf l K) ∧ left (seen.set K true) (todo.take q ++ succOf l K) < left seen todo := by
  have hl := h.len
  obtain ⟨hql, rfl⟩ := List.getElem?_eq_some_iff.1 hK
  have hs := snoc_of (hl.trans hq)
  have hlt := h.lt _ (List.getElem_mem hql)
  have htd := h.td
  rw [hs] at htd
  have hsk : seen[todo[q]]? = some false := by
    have hlen := h.td.len
    have : todo[q] < seen.length := by omega
    rw [List.getElem?_eq_getElem this]
    cases hc : seen[todo[q]] with
    | false => rfl
    | true => exact absurd (show At seen todo[q] by unfold At; rw [List.getElem?_eq_getElem this, hc]) hk
  have hlf : left (seen.set todo[q] true) (todo.take q ++ succOf l todo[q]) < left seen todo := by
    have h2 := left_take (todo := todo.take q) (js := succOf l todo[q]) hsk (by rw [succ_at hlt, List.length_map]; exact after_len _ _)
    rwa [← hs] at h2
  refine ⟨⟨os, ot, ap, htd.take hlt, fun k hk => ?_, Nat.le_trans (Nat.le_of_lt hlf) h.few⟩, hlf⟩
  rcases List.mem_append.1 hk with h1 | h1
  · exact h.lt k (List.mem_of_mem_take h1)
  · exact succ_lt hR _ hlt k h1

set_option maxRecDepth 100000 in
set_option maxHeartbeats 4000000 in
theorem from_any (va vf : Value) (l : List I) (fr : List Nat) (w : World) (ha : Code w va l) (hv : Sl w vf fr.length 1 (nats fr)) (hR : Right l) (hf : ∀ k ∈ fr, k < l.length) (hn : l.length ≤ 100000000) (hfl : fr.length ≤ 1000000000) :
    Calls Tryd.prog 49 #[va, vf] w fun e w' => ∃ v, e = .returned v ∧ Out w w' 4 1 v l.length (bools (reached (succOf l) l.length fr)) := by
  obtain ⟨a, c, rfl⟩ := ha.val
  obtain ⟨a2, c2, rfl⟩ := hv.val
  have HA := hid ha; have HR0 := hid hR; have HF := hid hf
  have hmk := run_make_row' (P := Tryd.prog) 44 4 (.bool false) 1 Tryd.underlying44 infoBool rfl .i64 .i64 l.length (by omega) (by omega)
  rw [madeCells_one] at hmk
  have HO := hid (Out.row w (.bool false) 4 l.length (by unfold maxLen; omega))
  have HN := hid (Out.nil_at HO.out.below 3 1)
  have HV := hid (hv.below HO.out.below)
  have H1 := hid (one_nats fr)
  have hsz : (0 + fr.length) * 8 ≤ 140737488355328 := by omega
  clear ha hv hR hf
  go_enter Tryd.func49, Tryd.ntmps49
  go_wp2_with (at_builtin; refine wpList_append_src_at w _ rfl _ _ 46 rfl 3 (.int .i64 0) 1 8 fr.length Tryd.underlying46 infoInt rfl (by decide) _ _ _ HN.out rfl _ _ HV.out rfl H1.out hsz ?_ ?_)
  all_goals first | (intro vt w1 ho1 hg1 hat1) | omega | skip
  have HB := hid (show FRel w w1 l fr (.slice (some ⟨w.heap.size, 0, none⟩) l.length l.length) vt fr.length (List.replicate l.length false) fr from
    ⟨by have := HN.out.beside HO.out (apart_nil _ _ _) hg1; rw [show bools (List.replicate l.length false) = List.replicate l.length (.bool false) from by simp [bools]]; exact this,
     ho1, ((apart_nil _ 0 0).step HO.out (by simpa using hat1)).symm, Todo.start, HF.out, Nat.le_of_eq (left_start _ _)⟩)
  clear ho1 hg1 hat1 hmk
  go_wp2_with fail
  go_loopg [1] (3 * l.length + fr.length) (fun g v wr => ∃ m seen todo, g = left seen todo ∧ Hid (FRel w wr l fr (.slice (some ⟨w.heap.size, 0, none⟩) l.length l.length) v m seen todo))
  case atStart => exact ⟨fr.length, List.replicate l.length false, fr, (left_start _ _).symm, HB⟩
  case round =>
    obtain ⟨m, seen, todo, hg, HR⟩ := hrel
    have hlen := HR.out.len
    by_cases hm : m = 0
    · have hm0 : ¬ (0 : Int) < (m : Int) := by omega
      have HZ : Hid (seen = reached (succOf l) l.length fr) := hid (by
        have htd := HR.out.td
        have : todo = [] := List.eq_nil_of_length_eq_zero (by omega)
        subst this
        exact htd.done (succ_lt HR0.out) HF.out)
      have HO2 := hid HR.out.os
      obtain ⟨at1, ct1, rfl⟩ := HR.out.ot.sl.val
      clear hg hlen HR HB
      go_wp2
      go_ret
      exact ⟨_, rfl, by rw [← HZ.out]; exact HO2.out⟩
    · obtain ⟨q, hq⟩ : ∃ q, m = q + 1 := ⟨m - 1, by omega⟩
      have hql : q < todo.length := by omega
      obtain ⟨K, hK⟩ : ∃ K, todo[q]? = some K := ⟨_, List.getElem?_eq_getElem hql⟩
      have hkl : K < l.length := HR.out.lt _ (List.mem_of_getElem? hK)
      obtain ⟨gt, ct, rfl, hct, hcells⟩ := HR.out.ot.shape (by omega)
      have hcell := hcells q (.int .i64 (K : Int)) (by simp [nats, hK])
      have hsl := HR.out.td.len
      have HS := hid (HR.out.skip hq hK)
      have HT := hid (fun w' vt' => HR.out.take (w' := w') (vt' := vt') HR0.out hq hK)
      have hm1 : (0 : Int) < (m : Int) := by omega
      have hmi : (m : Int) - 1 = (q : Int) := by omega
      have hq0 : (0 : Int) ≤ (q : Int) := by omega
      have hqm : (q : Int) < (m : Int) := by omega
      have hqc : (q : Int) ≤ (ct : Int) := by omega
      have hlf := HR.out.few
      have hlf2 := todo_le seen todo
      have HQ := hid hq
      have HOT := hid (HR.out.ot.cut (m := q) (by omega))
      have HAP := hid (HR.out.ap.cut (m := q))
      have HOS := hid HR.out.os
      have HLF := hid (show q + 2 ≤ 3 * l.length + fr.length + 2 from by omega)
      obtain ⟨g0, cap0, u0, hv0, hg0, hcu, hfz, hset⟩ := HR.out.os.store (i := K) hkl
      simp only [Value.slice.injEq, Option.some.injEq, Addr.mk.injEq] at hv0
      obtain ⟨⟨rfl, _, _⟩, _, rfl⟩ := hv0
      obtain ⟨gs, cs, hvs, hcs, hscells⟩ := HR.out.os.shape (by omega)
      simp only [Value.slice.injEq, Option.some.injEq, Addr.mk.injEq] at hvs
      obtain ⟨⟨rfl, _, _⟩, _, rfl⟩ := hvs
      have hKs : K < seen.length := by omega
      have hsc := hscells K _ (bools_at hKs)
      have HY : Hid ((afterOf l[K] K).map (.int .i64) = nats (succOf l K) ∧ (afterOf l[K] K).length = (succOf l K).length) := hid (by
        have := succ_ints HR0.out hkl
        rw [this]; exact ⟨rfl, by rw [List.length_map]⟩)
      have HST := hid (fun x => hset x)
      have HNA : Hid (seen[K] = false → ¬ At seen K) := hid (fun h h2 => by
        unfold At at h2
        rw [List.getElem?_eq_getElem hKs, h] at h2; cases h2)
      have HAT : Hid (seen[K] = true → At seen K) := hid (fun h => by
        unfold At
        rw [List.getElem?_eq_getElem hKs, h])
      have H2K := hid (after_len l[K] K)
      have HK1 := hid hkl
      clear hcu hset hcells hscells hlf hlf2 HB hq hK hg0 hcs
      have hqb : (q : Int) ≤ 9223372036854775807 := by have := HLF.out; omega
      have hK0 : (0 : Int) ≤ (K : Int) := by omega
      have hKl : (K : Int) < (l.length : Int) := by omega
      cases hB : seen[K] with
      | true =>
        rw [hB] at hsc
        obtain ⟨hr, hm2⟩ := HS.out (HAT.out hB)
        have HR2 := hid hr; have HM2 := hid hm2; have HG := hid hg
        clear hB hr hm2 hg HS HT HNA HAT
        go_wp2
        go_roundg (left seen (todo.take q))
        case rel => exact ⟨q, seen, todo.take q, rfl, HR2⟩
        case measure => have := HM2.out; have := HG.out; omega
      | false =>
        rw [hB] at hsc
        have HN := hid (HNA.out hB)
        have HG := hid hg
        have HOS2 := hid (HST.out (.bool true))
        have HOT2 := hid (HOS.out.set_other (x := .bool true) HOT.out HAP.out K)
        clear hB hg HS HNA HAT
        go_wp2_with fail
        refine (after_any _ l K _ (HA.out.below HOS2.out.below) hkl (by omega)).mono ?_
        rintro e w3 ⟨v, rfl, ho3⟩
        rw [HY.out.1, HY.out.2] at ho3
        have hlen2 : (succOf l K).length ≤ 2 := by rw [← HY.out.2]; exact H2K.out
        have HOS3 := hid (HOS2.out.later ho3.below)
        have HOT3 := hid (HOT2.out.later ho3.below)
        have HS3 := hid ho3.sl
        have H13 := hid (one_nats (succOf l K))
        obtain ⟨a3, c3, rfl⟩ := ho3.sl.val
        have hl2 := HLF.out
        have hsz3 : (q + (succOf l K).length) * 8 ≤ 140737488355328 := by omega
        clear ho3
        go_wp2_with (at_builtin; refine wpList_append_src_at w _ rfl _ _ 46 rfl 3 (.int .i64 0) 1 8 (succOf l K).length Tryd.underlying46 infoInt rfl (by decide) _ _ _ HOT3.out rfl _ _ HS3.out rfl H13.out hsz3 ?_ ?_)
        all_goals first | (intro vt' w4 ho4 hg4 hat4) | omega | skip
        have HX := hid (HT.out w4 vt' HN.out (by have := HOT3.out.beside HOS3.out HAP.out.symm hg4; rwa [bools_set] at this) (by rw [nats_append]; rw [nats_take] at ho4; exact ho4) ((HAP.out.symm.step HOS3.out hat4).symm))
        clear ho4 hg4 hat4
        go_wp2
        go_roundg (left (seen.set K true) (todo.take q ++ succOf l K))
        case rel => exact ⟨_, _, _, rfl, hid HX.out.1⟩
        case measure => have := HX.out.2; have := HG.out; omega

end Go.Proofs.YtklebfkbildifaaDoor.flows

/- What comes next: the reference's After. Condition: the place is one of the code's. -/
namespace Go.Proofs.YtklebfkbildifaaDoor.flows
open Go.RowKit Go.Proofs.YtklebfkbildifaaDoor.lib Go.Proofs.YtklebfkbildifaaDoor.errs Go.Proofs.YtklebfkbildifaaDoor.names Go.Proofs.YtklebfkbildifaaDoor.descs Go.Proofs.YtklebfkbildifaaDoor.ins

theorem Out.lit_at {w W : World} (hb : Below w.heap.size w W) (arr : Array Value) (e : TypeId) (n size B : Nat) (hB : W.heap.size = B) (h : arr.size = n * size) (hm : n ≤ maxLen) : Out w (W.alloc (.cells arr e)) e size (.slice (some ⟨B, 0, none⟩) n n) n arr.toList := by
  subst hB
  exact ⟨World.ownsRow_lit W arr n hb.size hm h, hb.alloc hb.size _⟩

set_option maxRecDepth 100000 in
set_option maxHeartbeats 2000000 in
theorem rafter_any (va : Value) (l : List I) (k : Nat) (w : World) (ha : Code w va l) (hk : k < l.length) (hn : l.length ≤ 1000000000000) :
    Calls Tryd.prog 51 #[va, .int .i64 (k : Int)] w (Gives w (afterOf l[k] k)) := by
  obtain ⟨a, c, rfl⟩ := ha.val
  obtain ⟨b, off, hab, hc0, hc1, hc2, hc3, hc4, hc5⟩ := code_at ha hk
  subst hab
  have hi : (0 : Int) ≤ (k : Int) := by omega
  have hkl : (k : Int) < (l.length : Int) := by omega
  generalize l[k] = x at hc0 hc1 hc2 hc3 hc4 hc5
  obtain ⟨op, xa, xb, t, xc, xn⟩ := x
  have HB := hid (ext_alloc w (.cells #[.int .i64 op, .int .i64 xa, .int .i64 xb, .string t, .string xc, .string xn] 33))
  have HN := hid (Out.nil_at HB.out 3 1)
  clear ha
  by_cases h14 : op = 14
  · subst h14
    have HZ : Hid (afterOf ⟨14, xa, xb, t, xc, xn⟩ k = [xa]) := hid (by simp [afterOf, endsOp, jumpsOp])
    have HO := hid (Out.lit_at HB.out #[.int .i64 xa] 3 1 1 (w.heap.size + 1) (by simp) rfl (by decide))
    go_enter Tryd.func51, Tryd.ntmps51
    go_wp2
    go_ret
    exact ⟨_, rfl, by rw [HZ.out]; exact HO.out⟩
  · have h14b : (op == 14) = false := by simp [h14]
    cases hE : endsOp op with
    | true =>
      have HZ : Hid (afterOf ⟨op, xa, xb, t, xc, xn⟩ k = []) := hid (by
        have hJ : jumpsOp op = false := by
          cases hJ : jumpsOp op with
          | false => rfl
          | true => exact absurd (ends_jumps hE hJ) h14
        simp [afterOf, hE, hJ])
      have HE := hid hE
      clear hE
      go_enter Tryd.func51, Tryd.ntmps51
      go_wp2_with fail
      refine (rends_any op _).mono ?_
      rintro e w1 ⟨rfl, rfl⟩
      rw [HE.out]
      go_wp2
      go_ret
      exact ⟨_, rfl, by rw [HZ.out]; exact HN.out⟩
    | false =>
      have HO := hid (Out.lit_at HB.out #[.int .i64 ((k : Int) + 1)] 3 1 1 (w.heap.size + 1) (by simp) rfl (by decide))
      cases hJ : jumpsOp op with
      | false =>
        have HZ : Hid (afterOf ⟨op, xa, xb, t, xc, xn⟩ k = [(k : Int) + 1]) := hid (by simp [afterOf, hE, hJ])
        have HE := hid hE; have HJ := hid hJ
        clear hE hJ
        go_enter Tryd.func51, Tryd.ntmps51
        go_wp2_with fail
        refine (rends_any op _).mono ?_
        rintro e w1 ⟨rfl, rfl⟩
        rw [HE.out]
        go_wp2_with fail
        refine (rjumps_any op _).mono ?_
        rintro e w1 ⟨rfl, rfl⟩
        rw [HJ.out]
        go_wp2
        go_ret
        exact ⟨_, rfl, by rw [HZ.out]; exact HO.out⟩
      | true =>
        by_cases hx : xa = (k : Int) + 1
        · have HZ : Hid (afterOf ⟨op, xa, xb, t, xc, xn⟩ k = [(k : Int) + 1]) := hid (by simp [afterOf, hE, hJ, hx, h14])
          have HE := hid hE; have HJ := hid hJ
          clear hE hJ
          subst hx
          go_enter Tryd.func51, Tryd.ntmps51
          go_wp2_with fail
          refine (rends_any op _).mono ?_
          rintro e w1 ⟨rfl, rfl⟩
          rw [HE.out]
          go_wp2_with fail
          refine (rjumps_any op _).mono ?_
          rintro e w1 ⟨rfl, rfl⟩
          rw [HJ.out]
          go_wp2
          go_ret
          exact ⟨_, rfl, by rw [HZ.out]; exact HO.out⟩
        · have HZ : Hid (afterOf ⟨op, xa, xb, t, xc, xn⟩ k = [(k : Int) + 1, xa]) := hid (by simp [afterOf, hE, hJ, hx])
          have HO2 := hid (Out.lit_at HB.out #[.int .i64 ((k : Int) + 1), .int .i64 xa] 3 2 1 (w.heap.size + 1) (by simp) rfl (by decide))
          have HE := hid hE; have HJ := hid hJ
          have hxb : (xa == (k : Int) + 1) = false := by simp [hx]
          have hxm : (xa != (k : Int) + 1) = true := by simp [hx]
          clear hE hJ
          go_enter Tryd.func51, Tryd.ntmps51
          go_wp2_with fail
          refine (rends_any op _).mono ?_
          rintro e w1 ⟨rfl, rfl⟩
          rw [HE.out]
          go_wp2_with fail
          refine (rjumps_any op _).mono ?_
          rintro e w1 ⟨rfl, rfl⟩
          rw [HJ.out]
          go_wp2
          go_ret
          exact ⟨_, rfl, by rw [HZ.out]; exact HO2.out⟩

end Go.Proofs.YtklebfkbildifaaDoor.flows
