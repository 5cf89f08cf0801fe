/- run's call in memory: what its methods do to it. Condition: nothing. -/
import Derived.Maps.RangeWalk
import Derived.Test.YtloonnfelgokmaaGreatDoorZStpB
import Derived.Test.YtloonnfelgokmaaGreatDoorZVmZ
import Derived.Test.YtloonnfelgokmaaGreatDoorZRet
import Derived.Test.YtloonnfelgokmaaGreatDoorZOneZ
set_option maxRecDepth 100000
set_option maxHeartbeats 16000000
set_option linter.unusedSimpArgs false
set_option linter.unusedVariables false
namespace Go.Proofs.YtloonnfelgokmaaGreatDoor.worlds
open Go.RowKit lib maps classes errs descs names grow keep ins
abbrev vcells (l : List Vl) : List Value := l.flatMap Vl.cells
def Cl.row (c : Cl) (vL vS : Value) : Array Value := #[.string c.cls, .string c.m.nm, .string c.m.ty, .bool c.m.st, .bool c.m.ab, .bool c.m.pr, .int .i64 c.m.lo, c.m.vc, c.m.vh, .int .i64 (c.at_ : Int), vL, vS]
def own (B : Nat) (vL vS : Value) (k : Nat) : Prop := k = B ∨ vL.ownBlock = some k ∨ vS.ownBlock = some k
structure CL (w0 w : World) (B : Nat) (c : Cl) (vL vS : Value) : Prop where
 row : w.heap[B]? = some (.cells (c.row vL vS) 125 (0, 0))
 oL : Out w0 w 36 2 vL c.L.length (vcells c.L)
 oS : Out w0 w 36 2 vS c.S.length (vcells c.S)
 apart : Apart vS vL
 le : w0.heap.size ≤ B
 neL : vL.ownBlock ≠ some B
 neS : vS.ownBlock ≠ some B
 lenL : c.L.length ≤ 1000000
 lenS : c.S.length ≤ 1000000
 at_ : c.at_ ≤ 1000000
 code : c.m.At w0
section
variable {w0 w w' : World} {B : Nat} {c : Cl} {vL vS : Value}
theorem CL.below (h : CL w0 w B c vL vS) : Below w0.heap.size w0 w := h.oL.below
theorem CL.lt (h : CL w0 w B c vL vS) : B < w.heap.size := (zh h.row).1
theorem CL.later (h : CL w0 w B c vL vS) (hb : Below w.heap.size w w') : CL w0 w' B c vL vS :=
 ⟨(hb.block _ h.lt).trans h.row, h.oL.later hb, h.oS.later hb, h.apart, h.le, h.neL, h.neS, h.lenL, h.lenS, h.at_, h.code⟩
theorem CL.cells (h : CL w0 w B c vL vS) : w.cell? ⟨B, 7, none⟩ = some c.m.vc ∧ w.cell? ⟨B, 9, none⟩ = some (.int .i64 (c.at_ : Int)) ∧ w.cell? ⟨B, 10, none⟩ = some vL ∧ w.cell? ⟨B, 11, none⟩ = some vS := by
 refine ⟨?_, ?_, ?_, ?_⟩ <;> (rw [cell_of_row _ _ _ _ _ _ h.row]; rfl)
theorem CL.frz (h : CL w0 w B c vL vS) (j : Nat) : w.frozen? ⟨B, j, none⟩ = false := frozen_of_row _ _ _ _ _ h.row
theorem CL.putS {vS' : Value} {S' : List Vl} (h : CL w0 w B c vL vS) (hrow : w'.heap[B]? = w.heap[B]?) (hL : Out w0 w' 36 2 vL c.L.length (vcells c.L)) (ho : Out w0 w' 36 2 vS' S'.length (vcells S')) (ha : Apart vS' vL) (hne : vS'.ownBlock ≠ some B) (hl : S'.length ≤ 1000000) :
  CL w0 (w'.setCell ⟨B, 11, none⟩ vS') B { c with S := S' } vL vS' ∧ w'.cell? ⟨B, 11, none⟩ = some vS ∧ w'.frozen? ⟨B, 11, none⟩ = false := by
 have hr := hrow.trans h.row
 refine ⟨⟨?_, out_setB hL h.le h.neL, out_setB ho h.le hne, ha, h.le, h.neL, hne, h.lenL, hl, h.at_, h.code⟩, by rw [cell_of_row _ _ _ _ _ _ hr]; rfl, frozen_of_row _ _ _ _ _ hr⟩
 rw [heap_set hr]; rfl
theorem CL.setAt (h : CL w0 w B c vL vS) {n : Nat} (hn : n ≤ 1000000) : CL w0 (w.setCell ⟨B, 9, none⟩ (.int .i64 (n : Int))) B { c with at_ := n } vL vS :=
 ⟨by rw [heap_set h.row]; rfl, out_setB h.oL h.le h.neL, out_setB h.oS h.le h.neS, h.apart, h.le, h.neL, h.neS, h.lenL, h.lenS, hn, h.code⟩
end
structure CN (w0 ws w : World) (O : Nat → Prop) (B : Nat) (c : Cl) (vL vS : Value) : Prop where
 cl : CL w0 w B c vL vS
 kept : Keeps O ws w
 own_ : ∀ k, own B vL vS k → O k ∨ ws.heap.size ≤ k
theorem CN.of {w0 w : World} {B : Nat} {c : Cl} {vL vS : Value} (h : CL w0 w B c vL vS) : CN w0 w w (own B vL vS) B c vL vS := ⟨h, Keeps.refl _ _, fun _ h => .inl h⟩
theorem CN.later {w0 ws w w' : World} {O : Nat → Prop} {B : Nat} {c : Cl} {vL vS : Value} (h : CN w0 ws w O B c vL vS) (hb : Below w.heap.size w w') : CN w0 ws w' O B c vL vS :=
 ⟨h.cl.later hb, h.kept.trans (Keeps.of_below hb), h.own_⟩
theorem CN.then {w0 ws w w' : World} {O : Nat → Prop} {B : Nat} {c c' : Cl} {vL vS vL' vS' : Value} (h : CN w0 ws w O B c vL vS) (k : CN w0 w w' (own B vL vS) B c' vL' vS') : CN w0 ws w' O B c' vL' vS' :=
 ⟨k.cl, h.kept.then k.kept fun j hj ho => (h.own_ j ho).resolve_right (by omega), fun j hj => by
  rcases k.own_ j hj with h1 | h1
  ·exact h.own_ j h1
  ·exact .inr (Nat.le_trans h.kept.size h1)⟩
def CBy (w0 w : World) (B : Nat) (vL vS : Value) (r : Value) (c' : Cl) (e : Ending) (w' : World) : Prop := e = .returned r ∧ ∃ vL' vS', CN w0 w w' (own B vL vS) B c' vL' vS'
structure CX (w0 ws w : World) (O : Nat → Prop) (B : Nat) (c : Cl) (vL vS : Value) (R : List (Nat × Array Value × TypeId)) : Prop where
 cn : CN w0 ws w O B c vL vS
 rows : ∀ q ∈ R, w.heap[q.1]? = some (.cells q.2.1 q.2.2 (0, 0)) ∧ (w0.heap.size ≤ q.1 ∧ ws.heap.size ≤ q.1) ∧ ¬ own B vL vS q.1
section
variable {w0 ws w w' : World} {O : Nat → Prop} {B : Nat} {c c' : Cl} {vL vS vL' vS' : Value} {R : List (Nat × Array Value × TypeId)}
theorem CL.own_lt (h : CL w0 w B c vL vS) {k : Nat} (hk : own B vL vS k) : w0.heap.size ≤ k ∧ k < w.heap.size := by
 rcases hk with rfl | e | e
 ·exact ⟨h.le, h.lt⟩
 ·exact h.oL.own.lt k e
 ·exact h.oS.own.lt k e
theorem CX.of (h : CN w0 ws w O B c vL vS) : CX w0 ws w O B c vL vS [] := ⟨h, fun _ h => absurd h List.not_mem_nil⟩
theorem CX.later (h : CX w0 ws w O B c vL vS R) (hb : Below w.heap.size w w') : CX w0 ws w' O B c vL vS R :=
 ⟨h.cn.later hb, fun q hq => ⟨(hb.block _ (zh (h.rows q hq).1).1).trans (h.rows q hq).1, (h.rows q hq).2⟩⟩
theorem CX.then (h : CX w0 ws w O B c vL vS R) (k : CN w0 w w' (own B vL vS) B c' vL' vS') : CX w0 ws w' O B c' vL' vS' R :=
 ⟨h.cn.then k, fun q hq => by
  obtain ⟨h1, h2, h3⟩ := h.rows q hq
  have hlt := (zh h1).1
  exact ⟨(k.kept.block _ hlt h3).trans h1, h2, fun h4 => (k.own_ _ h4).elim h3 (fun h5 => absurd hlt (by omega))⟩⟩
theorem CX.box (h : CX w0 ws w O B c vL vS R) (cs : Array Value) (t : TypeId) : CX w0 ws (w.alloc (.cells cs t)) O B c vL vS ((w.heap.size, cs, t) :: R) :=
 ⟨(h.later (ext_alloc w _)).cn, fun q hq => by
  rcases List.mem_cons.1 hq with rfl | hq
  ·exact ⟨heap_alloc_new _ _, ⟨h.cn.cl.below.size, h.cn.kept.size⟩, fun h4 => absurd (h.cn.cl.own_lt h4).2 (Nat.lt_irrefl _)⟩
  ·exact (h.later (ext_alloc w _)).rows q hq⟩
theorem out_keeps {F : Nat → Prop} {e : TypeId} {size n : Nat} {v : Value} {xs : List Value} (h : Out w0 w e size v n xs) (hk : Keeps F w w') (hv : ∀ k, v.ownBlock = some k → ¬ F k) (hF : ∀ k, F k → w0.heap.size ≤ k) : Out w0 w' e size v n xs :=
 ⟨owns_keeps h.own hk hv (Nat.le_refl _), Keeps.below h.below h.below.size hk hF⟩
theorem CL.keeps {F : Nat → Prop} (h : CL w0 w B c vL vS) (hk : Keeps F w w') (hv : ∀ k, own B vL vS k → ¬ F k) (hF : ∀ k, F k → w0.heap.size ≤ k) : CL w0 w' B c vL vS :=
 ⟨(hk.block _ h.lt (hv _ (.inl rfl))).trans h.row, out_keeps h.oL hk (fun k e => hv k (.inr (.inl e))) hF, out_keeps h.oS hk (fun k e => hv k (.inr (.inr e))) hF, h.apart, h.le, h.neL, h.neS, h.lenL, h.lenS, h.at_, h.code⟩
theorem keeps_setRow (w : World) (Y : Nat) (cs : Array Value) : Keeps (fun k => k = Y) w (w.setRow Y cs) :=
 ⟨rfl, rfl, rfl, by rw [size_setRow]; exact Nat.le_refl _, fun k _ hk => heap_setRow_other w Y k cs hk⟩
theorem CX.set {Y : Nat} {cs cs' : Array Value} {t : TypeId} (h : CX w0 ws w O B c vL vS ((Y, cs, t) :: R)) (hR : ∀ q ∈ R, q.1 ≠ Y) : CX w0 ws (w.setRow Y cs') O B c vL vS ((Y, cs', t) :: R) := by
 obtain ⟨h1, h2, h3⟩ := h.rows _ (List.mem_cons_self)
 have hk := keeps_setRow w Y cs'
 refine ⟨⟨h.cn.cl.keeps hk (fun k hk e => h3 (by rw [e] at hk; exact hk)) (fun k e => e ▸ h2.1), h.cn.kept.then hk fun k hk e => by have := h2.2; simp only at this; omega, h.cn.own_⟩, fun q hq => ?_⟩
 rcases List.mem_cons.1 hq with rfl | hq
 ·exact ⟨setRow_heap _ _ _ _ _ _ h1, h2, h3⟩
 ·have q1 := h.rows q (List.mem_cons_of_mem _ hq)
  exact ⟨(heap_setRow_other w Y q.1 cs' (hR q hq)).trans q1.1, q1.2⟩
def XBy (w0 ws : World) (O : Nat → Prop) (B : Nat) (R : List (Nat × Array Value × TypeId)) (r : Value) (c' : Cl) (e : Ending) (w' : World) : Prop := e = .returned r ∧ ∃ vL' vS', CX w0 ws w' O B c' vL' vS' R
theorem CBy.rows {r : Value} {e : Ending} (hx : CX w0 ws w O B c vL vS R) (h : CBy w0 w B vL vS r c' e w') : XBy w0 ws O B R r c' e w' := by
 obtain ⟨he, vL', vS', hn⟩ := h
 exact ⟨he, vL', vS', hx.then hn⟩
end
def Vl.agg (v : Vl) : Value := .agg #[.int .i64 v.k, .int .i64 v.n]
theorem rpop_str {w0 w : World} {B : Nat} {c : Cl} {vL vS : Value} (T : List Vl) (v : Vl) (h : CL w0 w B { c with S := T ++ [v] } vL vS) :
  Calls Tryz.prog 107 #[.pointer (some ⟨B, 0, none⟩)] w (fun e w' => e = .returned v.agg ∧ ∃ vS', CN w0 w w' (own B vL vS) B { c with S := T } vL vS') := by
 obtain ⟨k, m⟩ := v
 obtain ⟨a, cp, hv⟩ := h.oS.sl.val
 obtain ⟨n, hn⟩ : ∃ n, T.length = n := ⟨_, rfl⟩
 have hl : (T ++ [(⟨k, m⟩ : Vl)]).length = n + 1 := by rw [List.length_append, hn]; rfl
 have hn8 : n ≤ 1000000 := by have := h.lenS; simp only [hl] at this; omega
 have HO : Hid (Out w0 w 36 2 (.slice a (n + 1) cp) (n + 1) (vcells (T ++ [(⟨k, m⟩ : Vl)]))) := hid (by have := h.oS; simp only [hl] at this hv; rw [hv] at this; exact this)
 simp only [hl] at hv
 subst hv
 obtain ⟨x7, x9, x10, x11⟩ := h.cells
 have f11 := h.frz 11
 have HCUT : Hid (Out w0 w 36 2 (.slice a n cp) T.length (vcells T)) := hid (by
  have := HO.out.cut (m := n) (by omega)
  rw [hn]
  have e : (vcells (T ++ [(⟨k, m⟩ : Vl)])).take (n * 2) = vcells T := by
   have hq : (vcells T).length = n * 2 := by rw [← hn]; exact flat_len (cells := Vl.cells) (sz := 2) (fun _ => rfl) T
   rw [vcells, List.flatMap_append, ← hq, List.take_left]
  rw [e] at this
  exact this)
 have HST : Hid (CL w0 (w.setCell ⟨B, 11, none⟩ (.slice a n cp)) B { c with S := T } vL (.slice a n cp)) := hid (h.putS (S' := T) rfl h.oL HCUT.out (Apart.symm (Apart.cut (Apart.symm h.apart))) (by
  have := h.neS
  cases a with
  | none => simp [Value.ownBlock]
  | some ad => simpa [Value.ownBlock] using this) (by omega)).1
 have hcap : (n : Int) ≤ (cp : Int) := by have := (HO.out.sl.cap).2; omega
 obtain ⟨bb, off, hab, hk0, hk1⟩ := vl_at (l := T ++ [(⟨k, m⟩ : Vl)]) (k := n) (by have q := HO.out.sl; rw [← hl] at q; exact q) (by rw [hl]; omega)
 have hkk : (T ++ [(⟨k, m⟩ : Vl)])[n]'(by rw [hl]; omega) = ⟨k, m⟩ := by simp [← hn]
 rw [hkk] at hk0 hk1
 simp only at hk0 hk1
 subst hab
 have hn0 : (0 : Int) ≤ (n : Int) := by omega
 have hBlt := h.lt
 have hbblt : bb < w.heap.size := World.block_lt_of_cell? w _ hk0
 have hne1 : w.heap.size ≠ B := by omega
 have hne2 : w.heap.size ≠ bb := by omega
 have HB := hid h.below
 clear h hl hn hkk
 go_enter Tryz.func107, Tryz.ntmps107
 go_wp2
 have HG : Hid ((((w.setCell ⟨B, 11, none⟩ (.slice (some ⟨bb, off, none⟩) n cp)).alloc (.cells #[.int .i64 k, .int .i64 m] 36)).alloc (.cells #[.int .i64 k, .int .i64 m] 36)).heap[w.heap.size]? = some (.cells #[.int .i64 k, .int .i64 m] 36 (0, 0))) := hid (by
  have e : (w.setCell ⟨B, 11, none⟩ (.slice (some ⟨bb, off, none⟩) n cp)).heap.size = w.heap.size := by simp [World.setCell]
  have h1 := heap_alloc_new (w.setCell ⟨B, 11, none⟩ (.slice (some ⟨bb, off, none⟩) n cp)) (.cells #[.int .i64 k, .int .i64 m] 36)
  rw [e] at h1
  exact (Below.heap_alloc _ _ _ (zh h1).1).trans h1)
 refine bodyPost_ret (results_cell_row rfl _ _ w.heap.size 36 _ (0, 0) _ rfl HG.out Tryz.underlying36 rfl (by kernel_rfl)) rfl ?_
 refine ⟨rfl, .slice (some ⟨bb, off, none⟩) n cp, ⟨HST.out.later ((ext_alloc _ _).trans ((ext_alloc _ _).mono (ext_alloc _ _).size)), ((Keeps.set w B 11 _).mono fun k _ hk => .inl hk).trans ((Keeps.alloc _ _ _).trans (Keeps.alloc _ _ _)), fun j hj => .inl hj⟩⟩
theorem rpop_any {w0 w : World} {B : Nat} {c : Cl} {vL vS : Value} (T : List Vl) (v : Vl) (h : CL w0 w B { c with S := T ++ [v] } vL vS) :
  Calls Tryz.prog 107 #[.pointer (some ⟨B, 0, none⟩)] w (CBy w0 w B vL vS v.agg { c with S := T }) :=
 (rpop_str T v h).mono fun e w' ⟨he, vS', hn⟩ => ⟨he, vL, vS', hn⟩
theorem infoV : (Tryz.prog.info? 36).map (fun i => (i.zero, i.size, i.bytes)) = some (some (.agg #[.int .i64 0, .int .i64 0]), 2, 16) := by kernel_rfl
theorem rput_any {w0 w : World} {B : Nat} {c : Cl} {vL vS : Value} (v : Vl) (h : CL w0 w B c vL vS) (hc : c.S.length < 1000000) :
  Calls Tryz.prog 172 #[.pointer (some ⟨B, 0, none⟩), v.agg] w (CBy w0 w B vL vS (.tuple #[]) { c with S := c.S ++ [v] }) := by
 obtain ⟨k, m⟩ := v
 obtain ⟨a, cp, hv⟩ := h.oS.sl.val
 obtain ⟨n, hn⟩ : ∃ n, c.S.length = n := ⟨_, rfl⟩
 have HN := hid hn
 rw [hn] at hv hc
 subst hv
 obtain ⟨x7, x9, x10, x11⟩ := h.cells
 have hBlt := h.lt
 have hne1 : w.heap.size ≠ B := by omega
 obtain ⟨w1, hw1⟩ : ∃ w1, w.alloc (.cells #[.int .i64 k, .int .i64 m] 36) = w1 := ⟨_, rfl⟩
 have hb1 : Below w.heap.size w w1 := hw1 ▸ ext_alloc _ _
 have HB1 := hid hb1
 obtain ⟨bx, hbx⟩ : ∃ bx, w.heap.size = bx := ⟨_, rfl⟩
 have hr1 : w1.heap[bx]? = some (.cells #[.int .i64 k, .int .i64 m] 36 (0, 0)) := by rw [← hw1, ← hbx]; exact heap_alloc_new _ _
 have HST := hid (h.later hb1)
 have HX : Hid (∀ u, Below w1.heap.size w1 u → u.cell? ⟨B, 11, none⟩ = some (.slice a n cp) ∧ u.heap[bx]? = some (.cells #[.int .i64 k, .int .i64 m] 36 (0, 0))) := hid (fun u hu => ⟨(HST.out.later hu).cells.2.2.2, (hu.block _ (zh hr1).1).trans hr1⟩)
 clear h hn hb1 hr1 x7 x9 x10 x11
 show Calls _ _ #[_, .agg #[.int .i64 k, .int .i64 m]] _ _
 go_enter Tryz.func172, Tryz.ntmps172
 go_wp2_with fail
 refine wp_region_ext_tail1 7 [(6, fun v u => Sl u v 1 2 [.int .i64 k, .int .i64 m])] ⟨fun _ _ _ h r => r.below h, trivial⟩ (by kernel_rfl) (by kernel_rfl) (by simp) (by decide) (by kernel_rfl) (by kernel_rfl) (by kernel_rfl) (by kernel_rfl) (by kernel_rfl) _ rfl (fun u => by go_simp; rfl) (fun c a' w' h => h) ?_
 go_frame
 refine zgc 2 ?_
 go_frame
 refine zgc 3 ?_
 go_frame
 refine zgc 4 ?_
 go_frame
 refine wpG_read 5 rfl rfl (.slice a n cp) rfl ?_ ?_
 ·intro u hu hh
  have q := (HX.out u hu).1
  go_simp
 go_frame
 refine wpG_read 6 rfl rfl (.agg #[.int .i64 k, .int .i64 m]) rfl ?_ ?_
 ·intro u hu hh
  have hR := (HX.out u hu).2
  exact (by have hl := run_loadVar_row (P := Tryz.prog) u bx 36 36 #[.int .i64 k, .int .i64 m] (0, 0) _ hR Tryz.underlying36 rfl (by kernel_rfl); (try simp only [List.getElem_toArray, List.getElem_cons_zero, List.getElem_cons_succ]); unfold execOp; simp only [Act.eval, Instr.loadAt, Instr.sureAddr, Sem.run_bind, Sem.run_pure]; change ((Sem.run Tryz.prog (loadVar 36 ⟨bx, 0, none⟩) u).andThen fun a w' => Result.ok (Next.value a) w') = _; rw [hl]; rfl)
 go_frame
 refine wpG_rel 7 rfl rfl rfl ?_ ?_
 ·intro u hu hh
  go_simp
  exact ⟨Sl.lit u #[.int .i64 k, .int .i64 m] 36 1 2 rfl, ext_alloc _ _⟩
 intro vB ⟨uB, _, hrB⟩
 go_frame
 refine wpG_nil fun w' hb' hF => ?_
 clear HX
 have hsB : Sl w' vB 1 2 [.int .i64 k, .int .i64 m] := hF 6
 obtain ⟨gB, cB, hvB⟩ := hsB.val
 subst hvB
 have HS2 := hid (HST.out.later hb')
 have HB2 := hid (HB1.out.trans (hb'.mono HB1.out.size))
 have HO : Hid (Out w0 w' 36 2 (.slice a n cp) n (vcells c.S)) := hid (by have := HS2.out.oS; rwa [HN.out] at this)
 clear hb' hF
 simp only [List.drop_succ_cons, List.drop_zero, List.getElem_toArray, List.getElem_cons_zero, List.getElem_cons_succ]
 refine wpList_append_src_at w0 _ rfl _ _ 34 rfl 36 (.agg #[.int .i64 0, .int .i64 0]) 2 16 1 Tryz.underlying34 infoV rfl (by decide) _ _ _ HO.out rfl _ _ hsB rfl (by simp [Value.oneCell']) (by omega) (by omega) ?_
 intro v2 w2 ho2 hg2 hat2
 obtain ⟨a2, c2, hv2⟩ := ho2.sl.val
 subst hv2
 have hP := HS2.out.putS (w' := w2) (vS' := .slice a2 (n + 1) c2) (S' := c.S ++ [(⟨k, m⟩ : Vl)]) (hg2.block B HS2.out.lt fun e => HS2.out.neS e.symm) (HO.out.beside HS2.out.oL HS2.out.apart hg2) (by rw [List.length_append, HN.out, vcells, List.flatMap_append]; exact ho2) (by
  intro q hq hq2
  rcases hat2 with he | ⟨j, he, hle⟩
  ·exact HS2.out.apart q (by rw [← he]; exact hq) hq2
  ·rw [hq] at he
   have := Option.some.inj he
   have := (HS2.out.oL.own.lt q hq2).2
   omega) (fun e => by
  rcases hat2 with he | ⟨j, he, hle⟩
  ·rw [he] at e; exact HS2.out.neS e
  ·rw [he] at e
   have := Option.some.inj e
   have := HS2.out.lt
   omega) (by rw [List.length_append, HN.out]; simp only [List.length_singleton]; omega)
 have HA : Hid (∀ j, (Value.slice a2 (n + 1) c2).ownBlock = some j → (Value.slice a n cp).ownBlock = some j ∨ w.heap.size ≤ j) := hid (fun j hj => by
  rcases hat2 with he | ⟨i, he, hle⟩
  ·exact .inl (he ▸ hj)
  ·rw [hj] at he
   obtain rfl := Option.some.inj he
   exact .inr (Nat.le_trans HB2.out.size hle))
 have HK2 : Hid (Keeps (own B vL (.slice a n cp)) w (w2.setCell ⟨B, 11, none⟩ (.slice a2 (n + 1) c2))) := hid ((Keeps.of_below HB2.out).trans (((Keeps.grown hg2).mono fun k _ hk => .inr (.inr hk.symm)).trans ((Keeps.set w2 B 11 _).mono fun k _ hk => .inl hk)))
 obtain ⟨hS3, y11, g11⟩ := hP
 have HS3 := hid hS3
 clear ho2 hg2 hat2 hsB hS3
 go_wp2_with fail
 go_end0
 refine ⟨rfl, vL, .slice a2 (n + 1) c2, ⟨HS3.out, HK2.out, fun j hj => ?_⟩⟩
 rcases hj with e | e | e
 ·exact .inl (.inl e)
 ·exact .inl (.inr (.inl e))
 ·rcases HA.out j e with h1 | h1
  ·exact .inl (.inr (.inr h1))
  ·exact .inr h1
theorem rpop {w0 w : World} {B : Nat} {c : Cl} {vL vS : Value} (T : List Vl) (k m : Int) (h : CL w0 w B { c with S := T ++ [⟨k, m⟩] } vL vS) :
  Calls Tryz.prog 107 #[.pointer (some ⟨B, 0, none⟩)] w (CBy w0 w B vL vS (.agg #[.int .i64 k, .int .i64 m]) { c with S := T }) := rpop_any T ⟨k, m⟩ h
theorem rput {w0 w : World} {B : Nat} {c : Cl} {vL vS : Value} (k m : Int) (h : CL w0 w B c vL vS) (hc : c.S.length < 1000000) :
  Calls Tryz.prog 172 #[.pointer (some ⟨B, 0, none⟩), .agg #[.int .i64 k, .int .i64 m]] w (CBy w0 w B vL vS (.tuple #[]) { c with S := c.S ++ [⟨k, m⟩] }) := rput_any ⟨k, m⟩ h hc
open Go.RowKit lib maps classes errs descs names grow keep ins nums
theorem rkind_any (t : ByteArray) (w : World) : Calls Tryz.prog 173 #[.string t] w fun e w' => e = .returned (.int .i64 (kindV t)) ∧ w = w' := by
 by_cases h : t = tI
 ·have q1 : (t.toList == [73]) = true := by rw [h, ByteArray.toList_eq]; rfl
  have q2 : t.toList = [73] := by simpa using q1
  have HR : Hid (kindV t = 1) := hid (by unfold kindV; rw [if_pos h])
  clear h
  go_enter Tryz.func173, Tryz.ntmps173
  go_wp2
  all_goals (go_ret; exact ⟨by rw [HR.out]; rfl, rfl⟩)
 ·have q2 : ¬ t.toList = [73] := fun e => h (by
   rw [ByteArray.toList_eq] at e
   rw [← bs_list t, e]; rfl)
  have q1 : (t.toList == [73]) = false := by simpa using q2
  have HR : Hid (kindV t = 2) := hid (by unfold kindV; rw [if_neg h])
  clear h
  go_enter Tryz.func173, Tryz.ntmps173
  go_wp2
  all_goals (go_ret; exact ⟨by rw [HR.out]; rfl, rfl⟩)
def flt : List PanicEntry := [{ v := .iface 170 (.agg #[]), recovered := false }]
theorem rneed_yes (w : World) : Calls Tryz.prog 108 #[.bool true] w fun e w' => e = .returned (.tuple #[]) ∧ w = w' := by
 go_enter Tryz.func108, Tryz.ntmps108
 go_wp2
 go_end0
 exact ⟨rfl, rfl⟩
theorem rneed_no (w : World) : Calls Tryz.prog 108 #[.bool false] w fun e w' => e = .panicked flt ∧ w = w' := by
 go_enter Tryz.func108, Tryz.ntmps108
 go_wp2
 exact ⟨rfl, rfl, rfl⟩
theorem CX.ins {w0 ws w : World} {O : Nat → Prop} {B : Nat} {c : Cl} {vL vS : Value} {R : List (Nat × Array Value × TypeId)} {X : Nat} {x : I} (h : CX w0 ws w O B c vL vS R) (hX : (X, x.cells.toArray, 56) ∈ R) :
  w.cell? ⟨X, 0, none⟩ = some (.int .i64 x.op) ∧ w.cell? ⟨X, 1, none⟩ = some (.int .i64 x.a) ∧ w.cell? ⟨X, 2, none⟩ = some (.int .i64 x.b) ∧ w.cell? ⟨X, 3, none⟩ = some (.string x.t) ∧ w.cell? ⟨X, 4, none⟩ = some (.string x.c) ∧ w.cell? ⟨X, 5, none⟩ = some (.string x.n) := by
 have hr := (h.rows _ hX).1
 refine ⟨?_, ?_, ?_, ?_, ?_, ?_⟩ <;> (rw [cell_of_row _ _ _ _ _ _ hr]; rfl)
def FBy (w0 w : World) (B : Nat) (vL vS : Value) (ok : Bool) (r : Value) (c' cf : Cl) (e : Ending) (w' : World) : Prop :=
 if ok = true then CBy w0 w B vL vS r c' e w' else (e = .panicked flt ∧ ∃ vL' vS', CN w0 w w' (own B vL vS) B cf vL' vS')
theorem fby_no {w0 w w' : World} {B : Nat} {vL vS vL' vS' r : Value} {c' cf : Cl} (h : CN w0 w w' (own B vL vS) B cf vL' vS') : FBy w0 w B vL vS false r c' cf (.panicked flt) w' := by
 unfold FBy
 rw [if_neg (by decide)]
 exact ⟨rfl, _, _, h⟩
theorem fby_yes {w0 w w' : World} {B : Nat} {vL vS r : Value} {c' cf : Cl} {e : Ending} (h : CBy w0 w B vL vS r c' e w') : FBy w0 w B vL vS true r c' cf e w' := by
 unfold FBy
 rw [if_pos rfl]
 exact h
theorem rmath_two {w0 w : World} {B : Nat} {c : Cl} {vL vS : Value} (op a b2 : Int) (t cc nn : ByteArray) (U : List Vl) (ka na kb nb : Int) (ha : ¬ a = 12) (h : CL w0 w B { c with S := U ++ [⟨ka, na⟩] ++ [⟨kb, nb⟩] } vL vS) :
  Calls Tryz.prog 174 #[.pointer (some ⟨B, 0, none⟩), .agg #[.int .i64 op, .int .i64 a, .int .i64 b2, .string t, .string cc, .string nn]] w
   (FBy w0 w B vL vS (ofOf t.data.toList a na nb).2 (.tuple #[]) { c with S := U ++ [⟨kindV t, (ofOf t.data.toList a na nb).1⟩] } { c with S := U }) := by
 obtain ⟨Z, hZ⟩ : ∃ Z, ofOf t.data.toList a na nb = Z := ⟨_, rfl⟩
 have HOF : Hid (∀ u, Calls Tryz.prog 117 #[.string t, .int .i64 a, .int .i64 na, .int .i64 nb] u fun e w' => e = .returned (.tuple #[.int .i64 Z.1, .bool Z.2]) ∧ u = w') := hid (fun u => by have := of_any t a na nb u; rw [hZ] at this; exact this)
 rw [hZ]
 obtain ⟨zr, zb⟩ := Z
 clear hZ
 have H0 := hid ((CX.of (CN.of h)).box #[.int .i64 op, .int .i64 a, .int .i64 b2, .string t, .string cc, .string nn] 56)
 obtain ⟨bx, hbx⟩ : ∃ bx, w.heap.size = bx := ⟨_, rfl⟩
 obtain ⟨w1, hw1⟩ : ∃ w1, w.alloc (.cells #[.int .i64 op, .int .i64 a, .int .i64 b2, .string t, .string cc, .string nn] 56) = w1 := ⟨_, rfl⟩
 rw [hbx, hw1] at H0
 obtain ⟨by_, hby⟩ : ∃ b, w1.heap.size = b := ⟨_, rfl⟩
 have H1 := hid (H0.out.box #[.int .i64 0, .int .i64 0] 36)
 obtain ⟨w2, hw2⟩ : ∃ w2, w1.alloc (.cells #[.int .i64 0, .int .i64 0] 36) = w2 := ⟨_, rfl⟩
 rw [hby, hw2] at H1
 have HNE : Hid (bx ≠ by_) := hid (by
  have := (zh (H0.out.rows _ (List.mem_cons_self)).1).1
  simp only at this
  omega)
 have HLEN : Hid (U.length < 1000000) := hid (by have := h.lenS; simp only [List.length_append, List.length_singleton] at this; omega)
 have x1 := (H1.out.ins (X := bx) (x := ⟨op, a, b2, t, cc, nn⟩) (List.mem_cons_of_mem _ (List.mem_cons_self))).2.1
 clear h
 go_enter Tryz.func174, Tryz.ntmps174
 go_wp2_with fail
 refine (rpop _ kb nb H1.out.cn.cl).mono ?_
 intro e w3 h3
 obtain ⟨rfl, vL3, vS3, h3⟩ := h3.rows H1.out
 have H3 := hid h3
 have r3 := (h3.rows _ (List.mem_cons_self)).1
 clear h3 x1
 go_wp2_with (refine wpList_store_row rfl 36 (.tmp 4) (.tmp 11) rfl by_ #[.int .i64 kb, .int .i64 nb] rfl rfl 36 _ r3 (by kernel_rfl) rfl (by simp [Value.oneCell']) ?_)
 have H4 := hid (H3.out.set (cs' := #[.int .i64 kb, .int .i64 nb]) (by intro q hq; rw [List.mem_singleton.1 hq]; exact HNE.out))
 have H5 := hid (H4.out.later (Below.refl _ _).drew)
 have HJ5 : Hid ((World.drew (w3.setRow by_ #[.int .i64 kb, .int .i64 nb])).heap[bx]? = some (.cells #[.int .i64 op, .int .i64 a, .int .i64 b2, .string t, .string cc, .string nn] 56 (0, 0)) ∧ (World.drew (w3.setRow by_ #[.int .i64 kb, .int .i64 nb])).heap[by_]? = some (.cells #[.int .i64 kb, .int .i64 nb] 36 (0, 0))) := hid ⟨(H5.out.rows _ (List.mem_cons_of_mem _ List.mem_cons_self)).1, (H5.out.rows _ List.mem_cons_self).1⟩
 clear r3
 refine wp_region_j (fun u => u.heap[bx]? = some (.cells #[.int .i64 op, .int .i64 a, .int .i64 b2, .string t, .string cc, .string nn] 56 (0, 0)) ∧ u.heap[by_]? = some (.cells #[.int .i64 kb, .int .i64 nb] 36 (0, 0))) (fun _ _ => False) (fun _ _ _ _ h => h.elim) rfl ?_
 change grow.wpAnyJ _ .any _ _ _ _ 15 (Array.replicate 15 false) _ (World.drew _)
 refine j_read HJ5.out 0 _ _ rfl (by kernel_rfl) (by kernel_rfl) (by kernel_rfl) (by rfl) (fun u _ => by go_simp; rfl) ?_
 simp only [zg1, zg2, zg3, Act.put, zg4, zg5, zg6]
 refine j_read HJ5.out 1 _ (.string t) rfl (by kernel_rfl) (by kernel_rfl) (by kernel_rfl) (by rfl) (fun u hu => by have q : u.cell? ⟨bx, 3, none⟩ = _ := cell_of_row _ _ _ _ _ _ hu.1; go_simp) ?_
 simp only [zg1, zg2, zg3, Act.put, zg4, zg5, zg6]
 refine j_read HJ5.out 2 _ _ rfl (by kernel_rfl) (by kernel_rfl) (by kernel_rfl) (by rfl) (fun u _ => by go_simp; rfl) ?_
 simp only [zg1, zg2, zg3, Act.put, zg4, zg5, zg6]
 refine j_read HJ5.out 3 _ (.int .i64 a) rfl (by kernel_rfl) (by kernel_rfl) (by kernel_rfl) (by rfl) (fun u hu => by have q : u.cell? ⟨bx, 1, none⟩ = _ := cell_of_row _ _ _ _ _ _ hu.1; go_simp) ?_
 simp only [zg1, zg2, zg3, Act.put, zg4, zg5, zg6]
 refine j_read HJ5.out 4 _ _ rfl (by kernel_rfl) (by kernel_rfl) (by kernel_rfl) (by rfl) (fun u _ => by go_simp; rfl) ?_
 simp only [zg1, zg2, zg3, Act.put, zg4, zg5, zg6]
 refine j_read HJ5.out 7 _ _ rfl (by kernel_rfl) (by kernel_rfl) (by kernel_rfl) (by rfl) (fun u _ => by go_simp; rfl) ?_
 simp only [zg1, zg2, zg3, Act.put, zg4, zg5, zg6]
 refine j_read HJ5.out 8 _ (.int .i64 nb) rfl (by kernel_rfl) (by kernel_rfl) (by kernel_rfl) (by rfl) (fun u hu => by have q : u.cell? ⟨by_, 1, none⟩ = _ := cell_of_row _ _ _ _ _ _ hu.2; go_simp) ?_
 simp only [zg1, zg2, zg3, Act.put, zg4, zg5, zg6]
 refine j_only 5 _ rfl (by kernel_rfl) (by rfl) ?_
 unfold growUponP
 go_simp
 refine (rpop _ ka na H5.out.cn.cl).mono ?_
 intro e w6 h6
 obtain ⟨rfl, vL6, vS6, h6⟩ := h6.rows H5.out
 have H6 := hid h6
 have HJ6 : Hid (w6.heap[bx]? = some (.cells #[.int .i64 op, .int .i64 a, .int .i64 b2, .string t, .string cc, .string nn] 56 (0, 0)) ∧ w6.heap[by_]? = some (.cells #[.int .i64 kb, .int .i64 nb] 36 (0, 0))) := hid ⟨(h6.rows _ (List.mem_cons_of_mem _ List.mem_cons_self)).1, (h6.rows _ List.mem_cons_self).1⟩
 clear h6
 refine ⟨_, rfl, HJ6.out, ?_⟩
 try simp only [zg1, zg2, zg3, Act.put, zg4, zg5, zg6]
 refine j_read HJ6.out 6 _ (.int .i64 na) rfl (by kernel_rfl) (by kernel_rfl) (by kernel_rfl) (by rfl) (fun u _ => by first | (go_simp; done) | (go_simp; rfl) | (unfold execOp; go_simp; trace_state; sorry)) ?_
 simp only [zg1, zg2, zg3, Act.put, zg4, zg5, zg6]
 refine j_only 9 _ rfl (by kernel_rfl) (by rfl) ?_
 unfold growUponP
 go_simp
 refine (HOF.out w6).mono ?_
 rintro e w7 ⟨rfl, rfl⟩
 refine ⟨_, rfl, HJ6.out, ?_⟩
 try simp only [zg1, zg2, zg3, Act.put, zg4, zg5, zg6]
 refine j_read HJ6.out 10 _ _ rfl (by kernel_rfl) (by kernel_rfl) (by kernel_rfl) (by rfl) (fun u _ => by go_simp; rfl) ?_
 simp only [zg1, zg2, zg3, Act.put, zg4, zg5, zg6]
 refine j_read HJ6.out 11 _ _ rfl (by kernel_rfl) (by kernel_rfl) (by kernel_rfl) (by rfl) (fun u _ => by go_simp; rfl) ?_
 simp only [zg1, zg2, zg3, Act.put, zg4, zg5, zg6]
 refine j_read HJ6.out 12 _ _ rfl (by kernel_rfl) (by kernel_rfl) (by kernel_rfl) (by rfl) (fun u _ => by go_simp; rfl) ?_
 simp only [zg1, zg2, zg3, Act.put, zg4, zg5, zg6]
 refine j_read HJ6.out 13 _ _ rfl (by kernel_rfl) (by kernel_rfl) (by kernel_rfl) (by rfl) (fun u _ => by go_simp; rfl) ?_
 simp only [zg1, zg2, zg3, Act.put, zg4, zg5, zg6]
 refine j_read HJ6.out 14 _ _ rfl (by kernel_rfl) (by kernel_rfl) (by kernel_rfl) (by rfl) (fun u _ => by go_simp; rfl) ?_
 simp only [zg1, zg2, zg3, Act.put, zg4, zg5, zg6]
 refine j_end (by kernel_rfl) ?_
 cases zb with
 | false =>
  go_wp2_with fail
  refine (rneed_no _).mono ?_
  rintro e w8 ⟨rfl, rfl⟩
  refine ⟨rfl, ?_⟩
  exact fby_no H6.out.cn
 | true =>
  go_wp2_with fail
  refine (rneed_yes _).mono ?_
  rintro e w8 ⟨rfl, rfl⟩
  have x3 := (H6.out.ins (X := bx) (x := ⟨op, a, b2, t, cc, nn⟩) (List.mem_cons_of_mem _ (List.mem_cons_self))).2.2.2.1
  go_wp2_with fail
  refine (rkind_any _ _).mono ?_
  rintro e w8 ⟨rfl, rfl⟩
  clear x3
  go_wp2_with fail
  refine (rput _ _ H6.out.cn.cl HLEN.out).mono ?_
  intro e w9 h9
  obtain ⟨rfl, vL9, vS9, h9⟩ := h9.rows H6.out
  have H9 := hid h9
  clear h9
  go_wp2_with fail
  go_end0
  exact fby_yes ⟨rfl, _, _, H9.out.cn⟩
theorem vl_atn {w : World} {a : Option Addr} {m c n : Nat} {l : List Vl} (hn : l.length = n) (h : Vls w (.slice a m c) l) {k : Nat} (hk : k < n) :
  ∃ b off, a = some ⟨b, off, none⟩ ∧ w.cell? ⟨b, off + k * 2, none⟩ = some (.int .i64 (l[k]'(hn ▸ hk)).k) ∧ w.cell? ⟨b, off + k * 2 + 1, none⟩ = some (.int .i64 (l[k]'(hn ▸ hk)).n) := by
 subst hn
 have hm : m = l.length := by
  obtain ⟨_, a', c', he, _⟩ := h
  simp only [Value.slice.injEq] at he
  exact he.2.1
 subst hm
 exact vl_at h hk
theorem rpl_4 {w0 w : World} {B : Nat} {c : Cl} {vL vS : Value} (i : Nat) (k m b2 : Int) (hv : c.L[i]? = some ⟨k, m⟩) (HLEN : Hid (c.S.length < 1000000)) (t cc nn : ByteArray) (h : CL w0 w B c vL vS) :
  Calls Tryz.prog 109 #[.pointer (some ⟨B, 0, none⟩), .agg #[.int .i64 4, .int .i64 (i : Int), .int .i64 b2, .string t, .string cc, .string nn]] w (CBy w0 w B vL vS (.int .i64 ((c.at_ : Int) + 1)) { c with S := c.S ++ [⟨k, m⟩] }) := by
 have H0 := hid ((CX.of (CN.of h)).box #[.int .i64 4, .int .i64 (i : Int), .int .i64 b2, .string t, .string cc, .string nn] 56)
 obtain ⟨bx, hbx⟩ : ∃ bx, w.heap.size = bx := ⟨_, rfl⟩
 obtain ⟨w1, hw1⟩ : ∃ w1, w.alloc (.cells #[.int .i64 4, .int .i64 (i : Int), .int .i64 b2, .string t, .string cc, .string nn] 56) = w1 := ⟨_, rfl⟩
 rw [hbx, hw1] at H0
 obtain ⟨x0, x1, x2, x3, x4, x5⟩ := H0.out.ins (X := bx) (x := ⟨4, (i : Int), b2, t, cc, nn⟩) List.mem_cons_self
 simp only at x0 x1 x2 x3 x4 x5
 have x9 := H0.out.cn.cl.cells.2.1
 have hat : (c.at_ : Int) ≤ 1000000 := by have := h.at_; (try simp only at this); omega
 have hat0 : (0 : Int) ≤ (c.at_ : Int) := by omega
 have HLS := hid h.lenS
 clear h
 have hk := H0.out.cn.cl.oL.sl
 obtain ⟨aL, cL, hvL⟩ := hk.val
 have x10 := H0.out.cn.cl.cells.2.2.1
 obtain ⟨n, hn⟩ : ∃ n, c.L.length = n := ⟨_, rfl⟩
 simp only [hn] at hvL
 subst hvL
 have hi0 : (0 : Int) ≤ (i : Int) := by omega
 have hi1 : (i : Int) < (n : Int) := by have := (List.getElem?_eq_some_iff.1 hv).1; omega
 obtain ⟨bb, off, rfl, y0, y1⟩ := vl_atn hn hk (k := i) (by omega)
 have hlk : c.L[i]'(by rw [hn]; omega) = ⟨k, m⟩ := (List.getElem?_eq_some_iff.1 hv).2
 rw [hlk] at y0 y1
 simp only at y0 y1
 have HX : Hid (∀ u, Below w1.heap.size w1 u → u.cell? ⟨bx, 1, none⟩ = some (.int .i64 (i : Int)) ∧ u.cell? ⟨B, 10, none⟩ = some (.slice (some ⟨bb, off, none⟩) n cL) ∧ u.cell? ⟨bb, off + i * 2, none⟩ = some (.int .i64 k) ∧ u.cell? ⟨bb, off + i * 2 + 1, none⟩ = some (.int .i64 m)) := hid (fun u hu => ⟨((H0.out.later hu).ins (X := bx) (x := ⟨4, (i : Int), b2, t, cc, nn⟩) List.mem_cons_self).2.1, (H0.out.later hu).cn.cl.cells.2.2.1, by rw [hu.cell (p := ⟨bb, off + i * 2, none⟩) (World.block_lt_of_cell? w1 _ y0)]; exact y0, by rw [hu.cell (p := ⟨bb, off + i * 2 + 1, none⟩) (World.block_lt_of_cell? w1 _ y1)]; exact y1⟩)
 clear hk hn hv hlk y0 y1 x10
 go_enter Tryz.func109, Tryz.ntmps109
 go_wp2_with fail
 refine wp_region_ext_tail 9 [] trivial (by kernel_rfl) (by kernel_rfl) ?_
 refine zgc 1 ?_
 go_frame
 refine zgc 2 ?_
 go_frame
 refine zgc 3 ?_
 go_frame
 refine zgc 4 ?_
 go_frame
 refine wpG_read 5 rfl rfl (.slice (some ⟨bb, off, none⟩) n cL) rfl ?_ ?_
 ·intro u hu hh
  have q := (HX.out u hu).2.1
  go_simp
 go_frame
 refine zgc 6 ?_
 go_frame
 refine wpG_read 7 rfl rfl (.int .i64 (i : Int)) rfl ?_ ?_
 ·intro u hu hh
  have q := (HX.out u hu).1
  go_simp
 go_frame
 refine wpG_calc (v := .pointer (some ⟨bb, off + i * 2, none⟩)) 8 rfl rfl rfl (fun u => by first | (go_simp; done) | (go_simp; rfl) | (go_simp; omega)) ?_
 go_frame
 refine wpG_read 9 rfl rfl (.agg #[.int .i64 k, .int .i64 m]) rfl ?_ ?_
 ·intro u hu hh
  have q0 := (HX.out u hu).2.2.1
  have q1 := (HX.out u hu).2.2.2
  go_simp
 go_frame
 refine wpG_nil fun w' hb' hF => ?_
 have H0b := hid (H0.out.later hb')
 clear hb' hF HX x0 x1 x2 x3 x4 x5 x9 hw1
 go_wp2_with fail
 refine (rput _ _ H0b.out.cn.cl HLEN.out).mono ?_
 intro e v1 g1
 obtain ⟨rfl, vL1, vS1, g1⟩ := g1.rows H0b.out
 have H1 := hid g1
 clear g1
 go_wp2_with fail
 go_ret
 exact ⟨rfl, _, _, H1.out.cn⟩
theorem rpl_9s {w0 w : World} {B : Nat} {c : Cl} {vL vS : Value} (a b2 : Int) (ha : ¬ a = 12) (U : List Vl) (ka na kb nb : Int) (t cc nn : ByteArray) (h : CL w0 w B { c with S := U ++ [⟨ka, na⟩] ++ [⟨kb, nb⟩] } vL vS) :
  Calls Tryz.prog 109 #[.pointer (some ⟨B, 0, none⟩), .agg #[.int .i64 9, .int .i64 a, .int .i64 b2, .string t, .string cc, .string nn]] w (FBy w0 w B vL vS (ofOf t.data.toList a na nb).2 (.int .i64 ((c.at_ : Int) + 1)) { c with S := U ++ [⟨kindV t, (ofOf t.data.toList a na nb).1⟩] } { c with S := U }) := by
 have H0 := hid ((CX.of (CN.of h)).box #[.int .i64 9, .int .i64 a, .int .i64 b2, .string t, .string cc, .string nn] 56)
 obtain ⟨bx, hbx⟩ : ∃ bx, w.heap.size = bx := ⟨_, rfl⟩
 obtain ⟨w1, hw1⟩ : ∃ w1, w.alloc (.cells #[.int .i64 9, .int .i64 a, .int .i64 b2, .string t, .string cc, .string nn] 56) = w1 := ⟨_, rfl⟩
 rw [hbx, hw1] at H0
 obtain ⟨x0, x1, x2, x3, x4, x5⟩ := H0.out.ins (X := bx) (x := ⟨9, a, b2, t, cc, nn⟩) List.mem_cons_self
 simp only at x0 x1 x2 x3 x4 x5
 have x9 := H0.out.cn.cl.cells.2.1
 have hat : (c.at_ : Int) ≤ 1000000 := by have := h.at_; (try simp only at this); omega
 have hat0 : (0 : Int) ≤ (c.at_ : Int) := by omega
 have HLS := hid h.lenS
 clear h
 go_enter Tryz.func109, Tryz.ntmps109
 go_wp2_with fail
 refine (rmath_two 9 a b2 t cc nn U ka na kb nb ha H0.out.cn.cl).mono ?_
 intro e w2 g2
 unfold FBy at g2
 split at g2
 ·rename_i hok
  obtain ⟨rfl, vL2, vS2, g2⟩ := g2.rows H0.out
  have H2 := hid g2
  have HOK := hid hok
  clear g2 hok
  go_wp2_with fail
  go_ret
  unfold FBy
  rw [if_pos HOK.out]
  exact ⟨rfl, _, _, H2.out.cn⟩
 ·rename_i hok
  obtain ⟨rfl, vL2, vS2, g2⟩ := g2
  refine ⟨rfl, ?_⟩
  unfold FBy
  rw [if_neg hok]
  exact ⟨rfl, _, _, (H0.out.then g2).cn⟩
end Go.Proofs.YtloonnfelgokmaaGreatDoor.worlds
