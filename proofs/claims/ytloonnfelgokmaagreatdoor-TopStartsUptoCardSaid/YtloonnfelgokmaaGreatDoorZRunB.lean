/- run's machine in memory. No condition. -/
import Derived.Maps.RangeWalk
import Derived.Test.YtloonnfelgokmaaGreatDoorZRunA
import Derived.Defers
import Derived.Recover
import Derived.Laws.CopyRow
import Derived.Laws.CopyOwn
import Derived.Test.YtloonnfelgokmaaGreatDoorZChkB
import Derived.Test.YtloonnfelgokmaaGreatDoorZCls6
set_option maxRecDepth 100000
set_option maxHeartbeats 16000000
set_option linter.unusedSimpArgs false
set_option linter.unusedVariables false
namespace Go.Proofs.YtloonnfelgokmaaGreatDoor.worlds
open Go.RowKit lib maps classes errs descs names grow keep ins nums
structure HeapAt (w0 w : World) (vT : Value) (G : List Th) : Prop where
 own : Out w0 w 120 2 vT G.length (G.flatMap Th.cells)
 at_ : ∀ x ∈ G, Out w0 w 36 2 x.vh x.has.length (vcells x.has)
 apart : G.Pairwise fun x y => Apart x.vh y.vh
 ne : ∀ x ∈ G, Apart x.vh vT
def hown (vT : Value) (G : List Th) (k : Nat) : Prop := vT.ownBlock = some k ∨ ∃ x ∈ G, x.vh.ownBlock = some k
section
variable {w0 w w' : World} {vT : Value} {G : List Th}
theorem HeapAt.lt (h : HeapAt w0 w vT G) {k : Nat} (hk : hown vT G k) : w0.heap.size ≤ k ∧ k < w.heap.size := by
 rcases hk with e | ⟨x, hx, e⟩
 ·exact h.own.own.lt k e
 ·exact (h.at_ x hx).own.lt k e
theorem HeapAt.keeps {F : Nat → Prop} (h : HeapAt w0 w vT G) (hk : Keeps F w w') (hv : ∀ k, hown vT G k → ¬ F k) (hF : ∀ k, F k → w0.heap.size ≤ k) : HeapAt w0 w' vT G :=
 ⟨out_keeps h.own hk (fun k e => hv k (.inl e)) hF, fun x hx => out_keeps (h.at_ x hx) hk (fun k e => hv k (.inr ⟨x, hx, e⟩)) hF, h.apart, h.ne⟩
theorem HeapAt.later (h : HeapAt w0 w vT G) (hb : Below w.heap.size w w') : HeapAt w0 w' vT G := ⟨h.own.later hb, fun x hx => (h.at_ x hx).later hb, h.apart, h.ne⟩
theorem HeapAt.nil (w : World) : HeapAt w w (.slice none 0 0) [] := ⟨Out.nil _ _ _, fun _ h => absurd h List.not_mem_nil, .nil, fun _ h => absurd h List.not_mem_nil⟩
end
def CallsAt (w0 w : World) : (Nat → Prop) → List Nat → List Cl → Prop
 | _, [], [] => True
 | D, B :: Bs, c :: cs => ∃ vL vS, CL w0 w B c vL vS ∧ (∀ k, own B vL vS k → ¬ D k) ∧ CallsAt w0 w (fun k => D k ∨ own B vL vS k) Bs cs
 | _, _, _ => False
theorem calls_len {w0 w : World} : ∀ {D : Nat → Prop} {Bs : List Nat} {cs : List Cl}, CallsAt w0 w D Bs cs → Bs.length = cs.length
 | _, [], [], _ => rfl
 | _, [], _ :: _, h => h.elim
 | _, _ :: _, [], h => h.elim
 | _, _ :: _, _ :: _, ⟨_, _, _, _, h⟩ => by rw [List.length_cons, List.length_cons, calls_len h]
theorem calls_keeps {w0 w w' : World} {F : Nat → Prop} (hk : Keeps F w w') (hF0 : ∀ k, F k → w0.heap.size ≤ k) : ∀ {D D' : Nat → Prop} {Bs : List Nat} {cs : List Cl}, CallsAt w0 w D Bs cs → (∀ k, F k → D k) → (∀ k, D' k → D k ∨ w.heap.size ≤ k) → CallsAt w0 w' D' Bs cs
 | _, _, [], [], _, _, _ => trivial
 | _, _, [], _ :: _, h, _, _ => h.elim
 | _, _, _ :: _, [], h, _, _ => h.elim
 | D, D', B :: Bs, c :: cs, ⟨vL, vS, hc, hd, hr⟩, hFD, hDD => by
  refine ⟨vL, vS, hc.keeps hk (fun k ho hf => hd k ho (hFD k hf)) hF0, fun k ho hd' => ?_, calls_keeps hk hF0 hr (fun k hf => .inl (hFD k hf)) fun k h' => ?_⟩
  ·rcases hDD k hd' with h1 | h1
   ·exact hd k ho h1
   ·have := (hc.own_lt ho).2; omega
  ·rcases h' with h1 | h1
   ·rcases hDD k h1 with h2 | h2
    ·exact .inl (.inl h2)
    ·exact .inr h2
   ·exact .inl (.inr h1)
def ptrs (Bs : List Nat) : List Value := Bs.reverse.map fun b => .pointer (some ⟨b, 0, none⟩)
theorem ptrs_cons (b : Nat) (Bs : List Nat) : ptrs (b :: Bs) = ptrs Bs ++ [.pointer (some ⟨b, 0, none⟩)] := by unfold ptrs; simp
theorem ptrs_len (Bs : List Nat) : (ptrs Bs).length = Bs.length := by unfold ptrs; simp
structure MM (w0 w : World) (M b : Nat) (W : WL) (vT vC : Value) (G : List Th) (Bs : List Nat) (k : Mac) (t : Told) (s : Nat) (ov : Bool) : Prop where
 row : w.heap[M]? = some (.cells #[.map (some b), vT, vC, .int .i64 t.v.k, .int .i64 t.v.n, .string t.thrown, .int .i64 (s : Int), .bool ov] 81 (0, 0))
 le : w0.heap.size ≤ M
 wd : Wd w0 b W
 heap : HeapAt w0 w vT G
 same : G.map (fun x => (x.ty, x.has)) = k.H.map (fun x => (x.ty, x.has))
 oC : Out w0 w 123 1 vC Bs.length (ptrs Bs)
 calls : CallsAt w0 w (fun q => q = M ∨ vC.ownBlock = some q ∨ hown vT G q) Bs k.calls
 neC : vC.ownBlock ≠ some M
 neH : ∀ q, hown vT G q → q ≠ M ∧ vC.ownBlock ≠ some q
 len : Bs.length ≤ 1000000
section
variable {w0 w w' : World} {M b : Nat} {W : WL} {vT vC : Value} {G : List Th} {Bs : List Nat} {k : Mac} {t : Told} {s : Nat} {ov : Bool}
theorem MM.below (h : MM w0 w M b W vT vC G Bs k t s ov) : Below w0.heap.size w0 w := h.oC.below
theorem MM.lt (h : MM w0 w M b W vT vC G Bs k t s ov) : M < w.heap.size := (zh h.row).1
theorem MM.later (h : MM w0 w M b W vT vC G Bs k t s ov) (hb : Below w.heap.size w w') : MM w0 w' M b W vT vC G Bs k t s ov :=
 ⟨(hb.block _ h.lt).trans h.row, h.le, h.wd, h.heap.later hb, h.same, h.oC.later hb, calls_keeps (F := fun _ => False) (Keeps.of_below hb) (fun _ h => h.elim) h.calls (fun _ h => h.elim) (fun _ h => .inl h), h.neC, h.neH, h.len⟩
theorem MM.cells (h : MM w0 w M b W vT vC G Bs k t s ov) : w.cell? ⟨M, 0, none⟩ = some (.map (some b)) ∧ w.cell? ⟨M, 1, none⟩ = some vT ∧ w.cell? ⟨M, 2, none⟩ = some vC ∧ w.cell? ⟨M, 3, none⟩ = some (.int .i64 t.v.k) ∧ w.cell? ⟨M, 4, none⟩ = some (.int .i64 t.v.n) ∧ w.cell? ⟨M, 5, none⟩ = some (.string t.thrown) ∧ w.cell? ⟨M, 6, none⟩ = some (.int .i64 (s : Int)) ∧ w.cell? ⟨M, 7, none⟩ = some (.bool ov) := by
 refine ⟨?_, ?_, ?_, ?_, ?_, ?_, ?_, ?_⟩ <;> (rw [cell_of_row _ _ _ _ _ _ h.row]; rfl)
theorem MM.frz (h : MM w0 w M b W vT vC G Bs k t s ov) (j : Nat) : w.frozen? ⟨M, j, none⟩ = false := frozen_of_row _ _ _ _ _ h.row
theorem MM.head {c : Cl} {r : List Cl} (h : MM w0 w M b W vT vC G Bs k t s ov) (hc : k.calls = c :: r) :
  ∃ B Cs vL vS, Bs = B :: Cs ∧ CL w0 w B c vL vS ∧ (∀ q, own B vL vS q → ¬ (q = M ∨ vC.ownBlock = some q ∨ hown vT G q)) ∧ CallsAt w0 w (fun q => (q = M ∨ vC.ownBlock = some q ∨ hown vT G q) ∨ own B vL vS q) Cs r := by
 have := h.calls
 rw [hc] at this
 cases Bs with
 | nil => exact this.elim
 | cons B Cs =>
  obtain ⟨vL, vS, h1, h2, h3⟩ := this
  exact ⟨B, Cs, vL, vS, rfl, h1, h2, h3⟩
theorem MM.upd {c c' : Cl} {r : List Cl} {B : Nat} {Cs : List Nat} {vL vS vL' vS' : Value} (h : MM w0 w M b W vT vC G (B :: Cs) ⟨k.H, c :: r⟩ t s ov) (hc : CL w0 w B c vL vS) (hd : ∀ q, own B vL vS q → ¬ (q = M ∨ vC.ownBlock = some q ∨ hown vT G q)) (hr : CallsAt w0 w (fun q => (q = M ∨ vC.ownBlock = some q ∨ hown vT G q) ∨ own B vL vS q) Cs r)
  (h' : CN w0 w w' (own B vL vS) B c' vL' vS') : MM w0 w' M b W vT vC G (B :: Cs) ⟨k.H, c' :: r⟩ t s ov := by
 have hF0 : ∀ q, own B vL vS q → w0.heap.size ≤ q := fun q ho => (hc.own_lt ho).1
 refine ⟨(h'.kept.block _ h.lt fun ho => hd _ ho (.inl rfl)).trans h.row, h.le, h.wd, h.heap.keeps h'.kept (fun q hq ho => hd q ho (.inr (.inr hq))) hF0, h.same, out_keeps h.oC h'.kept (fun q hq ho => hd q ho (.inr (.inl hq))) hF0, ⟨vL', vS', h'.cl, fun q ho hq => ?_, calls_keeps h'.kept hF0 hr (fun q ho => .inr ho) fun q hq => ?_⟩, h.neC, h.neH, h.len⟩
 ·rcases h'.own_ q ho with h1 | h1
  ·exact hd q h1 hq
  ·rcases hq with rfl | e | e
   ·have := h.lt; omega
   ·have := (h.oC.own.lt q e).2; omega
   ·have := (h.heap.lt e).2; omega
 ·rcases hq with h1 | h1
  ·exact .inl (.inl h1)
  ·rcases h'.own_ q h1 with h2 | h2
   ·exact .inl (.inr h2)
   ·exact .inr h2
end
theorem keeps_row {w0 w w' : World} {B X : Nat} {c : Cl} {vL vS : Value} {cs : Array Value} {t : TypeId} {fr : Nat × Nat} (h : CL w0 w B c vL vS) (hk : Keeps (own B vL vS) w w') (hX : w.heap[X]? = some (.cells cs t fr)) (ht : t ≠ 36) (hB : X ≠ B) : w'.heap[X]? = some (.cells cs t fr) := by
 refine (hk.block X (zh hX).1 fun hx => ?_).trans hX
 rcases hx with rfl | he | he
 ·exact hB rfl
 ·obtain ⟨cur, hc⟩ := own_row h.oL he
  have := hc.symm.trans hX
  injection this with this
  injection this with _ this _
  exact ht this.symm
 ·obtain ⟨cur, hc⟩ := own_row h.oS he
  have := hc.symm.trans hX
  injection this with this
  injection this with _ this _
  exact ht this.symm
def OthT (w w' : World) : Prop := w.heap.size ≤ w'.heap.size ∧ ∀ (X : Nat) (cs : Array Value) (t : TypeId), w.heap[X]? = some (Obj.cells cs t (0, 0)) → t ≠ 81 → t ≠ 125 → t ≠ 36 → t ≠ 120 → t ≠ 123 → w'.heap[X]? = some (Obj.cells cs t (0, 0))
theorem OthT.trans {w w1 w2 : World} (h : OthT w w1) (k : OthT w1 w2) : OthT w w2 := ⟨Nat.le_trans h.1 k.1, fun X cs t h1 a b c d e => k.2 X cs t (h.2 X cs t h1 a b c d e) a b c d e⟩
theorem OthT.of_below {w w' : World} (h : Below w.heap.size w w') : OthT w w' := ⟨h.size, fun X cs t h1 _ _ _ _ _ => (h.block X (zh h1).1).trans h1⟩
theorem OthT.of_own {w0 w w' : World} {B : Nat} {c : Cl} {vL vS : Value} (h : CL w0 w B c vL vS) (hk : Keeps (own B vL vS) w w') : OthT w w' :=
 ⟨hk.size, fun X cs t h1 _ hb hc _ _ => keeps_row h hk h1 hc fun e => by
  have := h.row.symm.trans (e ▸ h1)
  injection this with this
  injection this with _ this _
  exact hb this.symm⟩
theorem OthT.of_row {w w' : World} {M : Nat} {cs0 : Array Value} (h : w.heap[M]? = some (.cells cs0 81 (0, 0))) (hk : Keeps (fun q => q = M) w w') : OthT w w' :=
 ⟨hk.size, fun X cs t h1 ha _ _ _ _ => (hk.block X (zh h1).1 fun e => by
  subst e
  have := h.symm.trans h1
  injection this with this
  injection this with _ this _
  exact ha this.symm).trans h1⟩
theorem OthT.of_grown {w0 w w' : World} {v : Value} {n : Nat} {xs : List Value} (h : Out w0 w 123 1 v n xs) (hg : w.grownBy w' v.ownBlock) : OthT w w' :=
 ⟨hg.size, fun X cs t h1 _ _ _ _ he => (hg.block X (zh h1).1 fun e => by
  obtain ⟨cur, hc⟩ := own_row h e.symm
  have := hc.symm.trans h1
  injection this with this
  injection this with _ this _
  exact he this.symm).trans h1⟩
theorem rheap_no (p1 p2 : Value) (op a b2 : Int) (t cc nn : ByteArray) (ho : ¬ op = 15 ∧ ¬ op = 16 ∧ ¬ op = 17 ∧ ¬ op = 18 ∧ ¬ op = 19 ∧ ¬ op = 20 ∧ ¬ op = 21 ∧ ¬ op = 22 ∧ ¬ op = 23) (w : World) :
  Calls Tryz.prog 110 #[p1, p2, .agg #[.int .i64 op, .int .i64 a, .int .i64 b2, .string t, .string cc, .string nn]] w fun e w' => e = .returned (.tuple #[]) ∧ Below w.heap.size w w' := by
 obtain ⟨o15, o16, o17, o18, o19, o20, o21, o22, o23⟩ := ho
 go_enter Tryz.func110, Tryz.ntmps110
 go_wp2
 go_end0
 exact ⟨rfl, ext_alloc w _⟩
theorem rleave_last {w0 w : World} {M b B : Nat} {W : WL} {vT vC : Value} {G : List Th} {H : List Th} {c : Cl} {t : Told} {s : Nat} {ov : Bool} (vk vn : Int) (h : MM w0 w M b W vT vC G [B] ⟨H, [c]⟩ t s ov) :
  Calls Tryz.prog 106 #[.pointer (some ⟨M, 0, none⟩), .agg #[.int .i64 vk, .int .i64 vn]] w fun e w' => e = .returned (.tuple #[]) ∧ Keeps (fun q => q = M) w w' ∧ ∃ vC', MM w0 w' M b W vT vC' G [] ⟨H, []⟩ ⟨⟨vk, vn⟩, t.thrown⟩ s true := by
 obtain ⟨aC, cC, hvC⟩ := h.oC.sl.val
 simp only [List.length_singleton] at hvC
 subst hvC
 have hcap : (1 : Int) ≤ (cC : Int) := by have := (h.oC.sl.cap).2; simp only [List.length_singleton] at this; omega
 obtain ⟨bx, hbx⟩ : ∃ bx, w.heap.size = bx := ⟨_, rfl⟩
 obtain ⟨w1, hw1⟩ : ∃ w1, w.alloc (.cells #[.int .i64 vk, .int .i64 vn] 36) = w1 := ⟨_, rfl⟩
 have hb1 : Below w.heap.size w w1 := hw1 ▸ ext_alloc _ _
 have hr1 : w1.heap[bx]? = some (.cells #[.int .i64 vk, .int .i64 vn] 36 (0, 0)) := by rw [← hw1, ← hbx]; exact heap_alloc_new _ _
 have H1 := hid (h.later hb1)
 have HB1 := hid hb1
 have HNE : Hid (M ≠ bx) := hid (by have := h.lt; omega)
 have HX : Hid (∀ u, Below w1.heap.size w1 u → u.cell? ⟨M, 2, none⟩ = some (.slice aC 1 cC)) := hid (fun u hu => (H1.out.later hu).cells.2.2.1)
 have HR1 := hid hr1
 clear h hb1 hr1
 go_enter Tryz.func106, Tryz.ntmps106
 go_wp2_with fail
 refine wp_region_ext_tail1 12 [] trivial (by kernel_rfl) (by kernel_rfl) (by simp) (by decide) (by kernel_rfl) (by kernel_rfl) (by kernel_rfl) (by kernel_rfl) (by kernel_rfl) _ rfl (fun u => by go_simp; rfl) (fun c a' w' h => h) ?_
 go_frame
 refine zgc 2 ?_
 go_frame
 refine zgc 3 ?_
 go_frame
 refine zgc 4 ?_
 go_frame
 refine wpG_read 5 rfl rfl (.slice aC 1 cC) rfl ?_ ?_
 ·intro u hu hh
  have q := HX.out u hu
  go_simp
 go_frame
 refine zgc 6 ?_
 go_frame
 refine zgc 7 ?_
 go_frame
 refine zgc 8 ?_
 go_frame
 refine wpG_read 9 rfl rfl (.slice aC 1 cC) rfl ?_ ?_
 ·intro u hu hh
  have q := HX.out u hu
  go_simp
 go_frame
 refine wpG_calc (v := .int .i64 1) 10 rfl rfl rfl (fun u => by first | (go_simp; done) | (go_simp; rfl) | (go_simp; omega)) ?_
 go_frame
 refine wpG_calc (v := .int .i64 0) 11 rfl rfl rfl (fun u => by first | (go_simp; done) | (go_simp; rfl) | (go_simp; omega)) ?_
 go_frame
 refine wpG_calc (v := .slice aC 0 cC) 12 rfl rfl rfl (fun u => by first | (go_simp; done) | (go_simp; rfl) | (go_simp; omega)) ?_
 go_frame
 refine wpG_nil fun w' hb' hF => ?_
 have H2 := hid (H1.out.later hb')
 have HB2 : Hid (Below w.heap.size w w') := hid (HB1.out.trans (hb'.mono HB1.out.size))
 have HR2 : Hid (w'.heap[bx]? = some (.cells #[.int .i64 vk, .int .i64 vn] 36 (0, 0))) := hid ((hb'.block _ (zh HR1.out).1).trans HR1.out)
 clear hb' hF HX hw1
 obtain ⟨x0, x1, x2, x3, x4, x5, x6, x7⟩ := H2.out.cells
 have f2 := H2.out.frz 2
 have f3 := H2.out.frz 3
 have f4 := H2.out.frz 4
 have f7 := H2.out.frz 7
 have z0 : w'.cell? ⟨bx, 0, none⟩ = some (.int .i64 vk) := by rw [cell_of_row _ _ _ _ _ _ HR2.out]; rfl
 have z1 : w'.cell? ⟨bx, 1, none⟩ = some (.int .i64 vn) := by rw [cell_of_row _ _ _ _ _ _ HR2.out]; rfl
 have hne := HNE.out
 have hne2 := HNE.out.symm
 go_wp2_with fail
 refine bodyPost_ret (results_none rfl _ _ _) rfl ?_
 have hk : Keeps (fun q => q = M) w' ((((w'.setCell ⟨M, 2, none⟩ (.slice aC 0 cC)).setCell ⟨M, 3, none⟩ (.int .i64 vk)).setCell ⟨M, 4, none⟩ (.int .i64 vn)).setCell ⟨M, 7, none⟩ (.bool true)) :=
  (Keeps.set _ M 2 _).trans ((Keeps.set _ M 3 _).trans ((Keeps.set _ M 4 _).trans (Keeps.set _ M 7 _)))
 have hM := H2.out
 refine ⟨rfl, (Keeps.of_below HB2.out).trans hk, .slice aC 0 cC, ?_⟩
 refine ⟨?_, hM.le, hM.wd, hM.heap.keeps hk (fun q hq e => (hM.neH q hq).1 e) (fun q e => e ▸ hM.le), hM.same, ?_, trivial, fun e => hM.neC (by rw [← e]; cases aC <;> rfl), fun q hq => ⟨(hM.neH q hq).1, fun e => (hM.neH q hq).2 (by rw [← e]; cases aC <;> rfl)⟩, Nat.zero_le _⟩
 ·rw [heap_set (heap_set (heap_set (heap_set hM.row 2 _) 3 _) 4 _) 7 _]; rfl
 ·have h1 : Out w0 w' 123 1 (.slice aC 1 cC) 1 (ptrs [B]) := hM.oC
  have h2 := h1.cut (m := 0) (by omega)
  exact out_keeps h2 hk (fun q hq e => hM.neC (by subst e; rw [← hq]; cases aC <;> rfl)) (fun q e => e ▸ hM.le)
theorem step_idle (b : Nat) (w : World) :
  CallsD Tryz.prog 101 #[.pointer (some ⟨b, 0, none⟩)] .returning w fun e u' w' =>
   e = .returned (.tuple #[]) ∧ u' = .returning ∧ w' = w := by
 refine callsD_of_wpS Tryz.func101 rfl fun c₀ cs hu => ?_
 apply wpS_seq
 apply wpS_region
 simp [wpOpsS, go_sem, recoverD, hu, Tryz.ntmps101, Exit.thenS]
 refine wpS_of_wp ?_
 rw [show (#[Value.pointer (some ⟨b, 0, none⟩)] ++ ((Array.replicate 23 undef).setIfInBounds 3 Value.nilIface).setIfInBounds 0 Value.nilIface) = (#[.pointer (some ⟨b, 0, none⟩), .nilIface, undef, undef, .nilIface, undef, undef, undef, undef, undef, undef, undef, undef, undef, undef, undef, undef, undef, undef, undef, undef, undef, undef, undef] : Array Value) from by kernel_rfl]
 go_wp2
 exact ⟨rfl, .returning, by cases c₀; cases hu; rfl, _, by simp [results, Tryz.results101, go_sem], rfl, rfl, rfl⟩
theorem run_idle (b : Nat) (w : World) :
  CallsD Tryz.prog 58 #[.pointer (some ⟨b, 0, none⟩)] .returning w fun e u' w' =>
   e = .returned (.tuple #[]) ∧ u' = .returning ∧ w' = w := by
 refine callsD_of_wpS Tryz.func58 rfl fun c₀ cs hu => ?_
 apply wpS_seq
 apply wpS_region
 simp [wpOpsS, go_sem, recoverD, hu, Tryz.ntmps58, Exit.thenS]
 refine wpS_of_wp ?_
 rw [show (#[Value.pointer (some ⟨b, 0, none⟩)] ++ ((Array.replicate 17 undef).setIfInBounds 3 Value.nilIface).setIfInBounds 0 Value.nilIface) = (#[.pointer (some ⟨b, 0, none⟩), .nilIface, undef, undef, .nilIface, undef, undef, undef, undef, undef, undef, undef, undef, undef, undef, undef, undef, undef] : Array Value) from by kernel_rfl]
 go_wp2
 exact ⟨rfl, .returning, by cases c₀; cases hu; rfl, _, by simp [results, Tryz.results58, go_sem], rfl, rfl, rfl⟩
theorem ins_flat {w : World} {b off n c : Nat} {l : List I} (h : flows.Code w (.slice (some ⟨b, off, none⟩) n c) l) {k : Nat} (hk : k < l.length) (j : Nat) (hj : j < l[k].cells.toArray.size) :
  w.cell? ⟨b, off + k * 6 + j, none⟩ = l[k].cells.toArray[j]? := by
 obtain ⟨b', off', he, h0, h1, h2, h3, h4, h5⟩ := flows.code_at h hk
 cases he
 have hj6 : j < 6 := hj
 have : j = 0 ∨ j = 1 ∨ j = 2 ∨ j = 3 ∨ j = 4 ∨ j = 5 := by omega
 rcases this with rfl | rfl | rfl | rfl | rfl | rfl
 ·rw [Nat.add_zero, h0]; rfl
 ·rw [h1]; rfl
 ·rw [h2]; rfl
 ·rw [h3]; rfl
 ·rw [h4]; rfl
 ·rw [h5]; rfl
theorem CX.add {w0 ws w w' : World} {O : Nat → Prop} {B : Nat} {c : Cl} {vL vS : Value} {R : List (Nat × Array Value × TypeId)} (h : CX w0 ws w O B c vL vS R) (hb : Below w.heap.size w w') {g : Nat} {cs : Array Value} {t : TypeId} (hg : w'.heap[g]? = some (.cells cs t (0, 0))) (hle : w.heap.size ≤ g) : CX w0 ws w' O B c vL vS ((g, cs, t) :: R) :=
 ⟨(h.later hb).cn, fun q hq => by
  rcases List.mem_cons.1 hq with rfl | hq
  ·exact ⟨hg, ⟨Nat.le_trans h.cn.cl.below.size hle, Nat.le_trans h.cn.kept.size hle⟩, fun h4 => absurd (h.cn.cl.own_lt h4).2 (by simp only; omega)⟩
  ·exact (h.later hb).rows q hq⟩
theorem CN.setAt {w0 ws w : World} {O : Nat → Prop} {B : Nat} {c : Cl} {vL vS : Value} (h : CN w0 ws w O B c vL vS) {n : Nat} (hn : n ≤ 1000000) : CN w0 ws (w.setCell ⟨B, 9, none⟩ (.int .i64 (n : Int))) O B { c with at_ := n } vL vS :=
 ⟨h.cl.setAt hn, h.kept.then (Keeps.set w B 9 _) fun k hk e => by
  subst e
  exact (h.own_ k (.inl rfl)).resolve_right (by omega), h.own_⟩
theorem ptr_at {w : World} {a : Option Addr} {n c : Nat} {B : Nat} {Cs : List Nat} (h : Sl w (.slice a n c) (B :: Cs).length 1 (ptrs (B :: Cs))) : ∃ bb off, a = some ⟨bb, off, none⟩ ∧ w.cell? ⟨bb, off + Cs.length, none⟩ = some (.pointer (some ⟨B, 0, none⟩)) := by
 obtain ⟨_, a', c', he, _, hx⟩ := h
 simp only [Value.slice.injEq] at he
 obtain ⟨rfl, _, _⟩ := he
 have hq : (ptrs (B :: Cs))[Cs.length]? = some (.pointer (some ⟨B, 0, none⟩)) := by
  rw [ptrs_cons, List.getElem?_append_right (by rw [ptrs_len]; exact Nat.le_refl _), ptrs_len, Nat.sub_self]; rfl
 rcases hx with hx | ⟨bb, off, rfl, hx⟩
 ·rw [hx] at hq; cases hq
 ·exact ⟨bb, off, rfl, hx _ _ hq⟩
theorem step_done {tmps : Array Value} {w : World} {b1 : Nat} {Q : Ending → World → Prop} (hQ : Q (.returned (.tuple #[])) w) :
  Leaves Tryz.prog Tryz.f59 tmps Q [{ target := .fn (.func 101) #[.pointer (some ⟨b1, 0, none⟩)], args := #[] }] .returning w := by
 refine leaves_cons (f := 101) (args := #[.pointer (some ⟨b1, 0, none⟩)]) (by simp) (by simp [go_sem]) ?_
 refine (step_idle b1 w).mono ?_
 rintro e u' w9 ⟨rfl, rfl, rfl⟩
 refine ⟨.tuple #[], ?_, hQ⟩
 simp [results, Tryz.results59, go_sem]
theorem rstep_plain {w0 w : World} {M b : Nat} {W : WL} {vT vC : Value} {G : List Th} {Bs : List Nat} {H : List Th} {c : Cl} {r : List Cl} {t : Told} {s : Nat} {ov : Bool} (h : MM w0 w M b W vT vC G Bs ⟨H, c :: r⟩ t s ov)
  (op a b2 : Int) (t0 cc nn : ByteArray) (hx : c.m.code[c.at_]? = some ⟨op, a, b2, t0, cc, nn⟩) (ho : ¬ op = 15 ∧ ¬ op = 16 ∧ ¬ op = 17 ∧ ¬ op = 18 ∧ ¬ op = 19 ∧ ¬ op = 20 ∧ ¬ op = 21 ∧ ¬ op = 22 ∧ ¬ op = 23 ∧ ¬ op = 24 ∧ ¬ op = 25 ∧ ¬ op = 26 ∧ ¬ op = 27 ∧ ¬ op = 28) (Lq Sq : List Vl) (next : Nat) (hnext : next ≤ 1000000)
  (hpl : ∀ (u : World) (B : Nat) (vL vS : Value), CL w0 u B c vL vS → Calls Tryz.prog 109 #[.pointer (some ⟨B, 0, none⟩), .agg #[.int .i64 op, .int .i64 a, .int .i64 b2, .string t0, .string cc, .string nn]] u (CBy w0 u B vL vS (.int .i64 (next : Int)) { c with L := Lq, S := Sq })) :
  Calls Tryz.prog 59 #[.pointer (some ⟨M, 0, none⟩)] w fun e w' => e = .returned (.tuple #[]) ∧ OthT w w' ∧ MM w0 w' M b W vT vC G Bs ⟨H, { c with L := Lq, S := Sq, at_ := next } :: r⟩ t s ov := by
 obtain ⟨B, Cs, vL, vS, rfl, hc, hd, hr⟩ := h.head rfl
 obtain ⟨o15, o16, o17, o18, o19, o20, o21, o22, o23, o24, o25, o26, o27, o28⟩ := ho
 have HO : Hid (¬ op = 15 ∧ ¬ op = 16 ∧ ¬ op = 17 ∧ ¬ op = 18 ∧ ¬ op = 19 ∧ ¬ op = 20 ∧ ¬ op = 21 ∧ ¬ op = 22 ∧ ¬ op = 23) := hid ⟨o15, o16, o17, o18, o19, o20, o21, o22, o23⟩
 clear o15 o16 o17 o18 o19 o20 o21 o22 o23
 have HM := hid h; have HC := hid hc; have HD := hid hd; have HR := hid hr; have HPL := hid hpl
 obtain ⟨m, hm⟩ : ∃ m, Cs.length = m := ⟨_, rfl⟩
 obtain ⟨aC, cC, hvC⟩ := h.oC.sl.val
 obtain ⟨bb, off, haC, hp⟩ := ptr_at (by have := h.oC.sl; rw [hvC] at this; exact this)
 have hlC : (B :: Cs).length = m + 1 := by rw [List.length_cons, hm]
 rw [hlC] at hvC
 have hm8 : m ≤ 1000000 := by have := h.len; omega
 have hm0 : (0 : Int) ≤ (m : Int) := by omega
 subst haC
 have HVC := hid hvC
 rw [hm] at hp
 have H0 := hid ((CX.of (CN.of hc)).box #[.pointer (some ⟨M, 0, none⟩)] 78)
 obtain ⟨bk, hbk⟩ : ∃ bk, w.heap.size = bk := ⟨_, rfl⟩
 obtain ⟨w1, hw1⟩ : ∃ w1, w.alloc (.cells #[.pointer (some ⟨M, 0, none⟩)] 78) = w1 := ⟨_, rfl⟩
 have HB1 : Hid (Below w.heap.size w w1) := hid (hw1 ▸ ext_alloc _ _)
 rw [hbk, hw1] at H0
 have HX : Hid (∀ u, Below w1.heap.size w1 u → u.cell? ⟨bk, 0, none⟩ = some (.pointer (some ⟨M, 0, none⟩)) ∧ u.cell? ⟨M, 2, none⟩ = some (.slice (some ⟨bb, off, none⟩) (m + 1) cC) ∧ u.cell? ⟨bb, off + m, none⟩ = some (.pointer (some ⟨B, 0, none⟩))) := hid (fun u hu => by
  have hbu := HB1.out.trans (hu.mono HB1.out.size)
  refine ⟨?_, ?_, ?_⟩
  ·rw [cell_of_row _ _ _ _ _ _ ((H0.out.later hu).rows _ List.mem_cons_self).1]; rfl
  ·rw [(HM.out.later hbu).cells.2.2.1, HVC.out]
  ·rw [hbu.cell (p := ⟨bb, off + m, none⟩) (World.block_lt_of_cell? w _ hp)]; exact hp)
 have hmf : ∀ (fn : Fn) (first cap : Array Value) (w : World), (Instr.makeFunc fn first cap).run Tryz.prog w = .ok (.func fn first cap) w := fun _ _ _ _ => rfl
 clear h hc hd hr hpl hp hvC hlC hm
 go_enter_defers Tryz.func59, Tryz.ntmps59
 go_wp2_with fail
 refine wp_region_ext_tail 12 [] trivial (by kernel_rfl) (by kernel_rfl) ?_
 refine wpG_read 1 rfl rfl (.pointer (some ⟨M, 0, none⟩)) rfl ?_ ?_
 ·intro u hu hh
  have q := (HX.out u hu).1
  go_simp
 go_frame
 refine zgc 2 ?_
 go_frame
 refine zgc 3 ?_
 go_frame
 refine wpG_read 4 rfl rfl (.slice (some ⟨bb, off, none⟩) (m + 1) cC) rfl ?_ ?_
 ·intro u hu hh
  have q := (HX.out u hu).2.1
  go_simp
 go_frame
 refine wpG_read 5 rfl rfl (.pointer (some ⟨M, 0, none⟩)) rfl ?_ ?_
 ·intro u hu hh
  have q := (HX.out u hu).1
  go_simp
 go_frame
 refine zgc 6 ?_
 go_frame
 refine zgc 7 ?_
 go_frame
 refine wpG_read 8 rfl rfl (.slice (some ⟨bb, off, none⟩) (m + 1) cC) rfl ?_ ?_
 ·intro u hu hh
  have q := (HX.out u hu).2.1
  go_simp
 go_frame
 refine wpG_calc (v := .int .i64 ((m : Int) + 1)) 9 rfl rfl rfl (fun u => by first | (go_simp; done) | (go_simp; rfl) | (go_simp; omega) | (go_simp; rw [IntKind.wrap_i64]; omega)) ?_
 go_frame
 refine wpG_calc (v := .int .i64 (m : Int)) 10 rfl rfl rfl (fun u => by first | (go_simp; done) | (go_simp; rfl) | (go_simp; omega) | (go_simp; rw [IntKind.wrap_i64]; omega)) ?_
 go_frame
 refine wpG_calc (v := .pointer (some ⟨bb, off + m, none⟩)) 11 rfl rfl rfl (fun u => by first | (go_simp; done) | (go_simp; rfl) | (go_simp; omega) | (go_simp; rw [IntKind.wrap_i64]; omega)) ?_
 go_frame
 refine wpG_read 12 rfl rfl (.pointer (some ⟨B, 0, none⟩)) rfl ?_ ?_
 ·intro u hu hh
  have q := (HX.out u hu).2.2
  go_simp
 go_frame
 refine wpG_nil fun w' hb' hF => ?_
 have H1 := hid (H0.out.later hb')
 have HB2 : Hid (Below w.heap.size w w') := hid (HB1.out.trans (hb'.mono HB1.out.size))
 clear hb' hF HX hw1
 obtain ⟨nK, hnK⟩ : ∃ n, c.m.code.length = n := ⟨_, rfl⟩
 obtain ⟨hxl, hxe⟩ := List.getElem?_eq_some_iff.1 hx
 have hcode0 := (H1.out.cn.cl.code.below H1.out.cn.cl.below).code
 obtain ⟨aK, cK, hvK⟩ := hcode0.val
 have hcode : flows.Code w' (.slice aK c.m.code.length cK) c.m.code := by rw [← hvK]; exact hcode0
 obtain ⟨bc, oc, haK, hrest⟩ := flows.code_at hcode hxl
 subst haK
 have HFL : Hid (∀ j, j < 6 → w'.cell? ⟨bc, oc + c.at_ * 6 + j, none⟩ = (#[.int .i64 op, .int .i64 a, .int .i64 b2, .string t0, .string cc, .string nn] : Array Value)[j]?) := hid (fun j hj => by have := ins_flat hcode hxl j hj; rw [hxe] at this; exact this)
 rw [hnK] at hvK
 have HVK := hid hvK
 obtain ⟨at0, hat⟩ : ∃ n, c.at_ = n := ⟨_, rfl⟩
 have hat0 : (0 : Int) ≤ (at0 : Int) := by omega
 have hat1 : (at0 : Int) < (nK : Int) := by omega
 have HAT := hid hat
 have HX : Hid (∀ u, Below w'.heap.size w' u → u.cell? ⟨B, 7, none⟩ = some (.slice (some ⟨bc, oc, none⟩) nK cK) ∧ u.cell? ⟨B, 9, none⟩ = some (.int .i64 (at0 : Int)) ∧ ∀ j, j < 6 → u.cell? ⟨bc, oc + at0 * 6 + j, none⟩ = (#[.int .i64 op, .int .i64 a, .int .i64 b2, .string t0, .string cc, .string nn] : Array Value)[j]?) := hid (fun u hu => by
  have hcl := (H1.out.later hu).cn.cl.cells
  refine ⟨by rw [hcl.1, HVK.out], by rw [hcl.2.1, HAT.out], fun j hj => ?_⟩
  have q := HFL.out j hj
  rw [HAT.out] at q
  have q2 : ∃ v, (#[.int .i64 op, .int .i64 a, .int .i64 b2, .string t0, .string cc, .string nn] : Array Value)[j]? = some v := ⟨_, Array.getElem?_eq_getElem hj⟩
  obtain ⟨v, hv⟩ := q2
  rw [hv] at q
  rw [hu.cell (p := ⟨bc, oc + at0 * 6 + j, none⟩) (World.block_lt_of_cell? w' _ q), q, hv])
 clear hrest hx hxl hxe hcode0 hcode hvK hnK hat HFL
 go_wp2_with fail
 refine wp_region_ext_tail 12 [(11, fun v u => ∃ g, v = .pointer (some ⟨g, 0, none⟩) ∧ w'.heap.size ≤ g ∧ u.heap[g]? = some (.cells #[.int .i64 0, .int .i64 0, .int .i64 0, .string { data := #[] }, .string { data := #[] }, .string { data := #[] }] 56 (0, 0)))] ⟨fun v u u' hb ⟨g, h1, h2, h3⟩ => ⟨g, h1, h2, (hb.block _ (zh h3).1).trans h3⟩, trivial⟩ (by kernel_rfl) (by kernel_rfl) ?_
 refine zgc 1 ?_
 go_frame
 refine zgc 2 ?_
 go_frame
 refine zgc 3 ?_
 go_frame
 refine zgc 4 ?_
 go_frame
 refine wpG_read 5 rfl rfl (.slice (some ⟨bc, oc, none⟩) nK cK) rfl ?_ ?_
 ·intro u hu hh
  have q := (HX.out u hu).1
  go_simp
 go_frame
 refine zgc 6 ?_
 go_frame
 refine zgc 7 ?_
 go_frame
 refine zgc 8 ?_
 go_frame
 refine wpG_read 9 rfl rfl (.int .i64 (at0 : Int)) rfl ?_ ?_
 ·intro u hu hh
  have q := (HX.out u hu).2.1
  go_simp
 go_frame
 refine wpG_calc (v := .pointer (some ⟨bc, oc + at0 * 6, none⟩)) 10 rfl rfl rfl (fun u => by first | (go_simp; done) | (go_simp; rfl) | (go_simp; omega) | (go_simp; rw [IntKind.wrap_i64]; omega)) ?_
 go_frame
 refine wpG_read 11 rfl rfl (.agg #[.int .i64 op, .int .i64 a, .int .i64 b2, .string t0, .string cc, .string nn]) rfl ?_ ?_
 ·intro u hu hh
  have hld := run_loadVar_flat (P := Tryz.prog) u bc (oc + at0 * 6) 56 #[.int .i64 op, .int .i64 a, .int .i64 b2, .string t0, .string cc, .string nn] _ ((HX.out u hu).2.2) Tryz.underlying56 rfl (by kernel_rfl)
  unfold execOp
  simp only [Act.eval, Instr.loadAt, Instr.sureAddr, Sem.run_bind, Sem.run_pure]
  change ((Sem.run Tryz.prog (loadVar 56 ⟨bc, oc + at0 * 6, none⟩) u).andThen fun a w' => Result.ok (Next.value a) w') = _
  rw [hld]
  rfl
 go_frame
 refine wpG_rel 12 rfl rfl rfl ?_ ?_
 ·intro u hu hh
  go_simp
  exact ⟨⟨u.heap.size, rfl, hu.size, heap_alloc_new _ _⟩, ext_alloc _ _⟩
 intro vP ⟨uP, _, hrP⟩
 go_frame
 refine wpG_nil fun w2 hb' hF => ?_
 obtain ⟨bi, hvP, hle, hri⟩ : ∃ g, vP = .pointer (some ⟨g, 0, none⟩) ∧ w'.heap.size ≤ g ∧ w2.heap[g]? = some (.cells #[.int .i64 0, .int .i64 0, .int .i64 0, .string { data := #[] }, .string { data := #[] }, .string { data := #[] }] 56 (0, 0)) := hF 11
 subst hvP
 have H2 := hid (H1.out.add hb' hri hle)
 have HNE : Hid (bk ≠ bi) := hid (by
  have := (zh (H1.out.rows _ List.mem_cons_self).1).1
  simp only at this
  omega)
 clear hb' hF HX hle
 simp only [List.drop_succ_cons, List.drop_zero, List.getElem_toArray, List.getElem_cons_zero, List.getElem_cons_succ]
 refine wpList_store_row rfl 56 (.tmp 3) (.tmp 29) rfl bi #[.int .i64 op, .int .i64 a, .int .i64 b2, .string t0, .string cc, .string nn] rfl rfl 56 _ hri (by kernel_rfl) rfl (by simp [Value.oneCell']) ?_
 have H3 := hid (H2.out.set (cs' := #[.int .i64 op, .int .i64 a, .int .i64 b2, .string t0, .string cc, .string nn]) (by intro q hq; rw [List.mem_singleton.1 hq]; exact HNE.out))
 obtain ⟨w3, hw3⟩ : ∃ w3, w2.setRow bi #[.int .i64 op, .int .i64 a, .int .i64 b2, .string t0, .string cc, .string nn] = w3 := ⟨_, rfl⟩
 rw [hw3] at H3 ⊢
 clear hw3 hri
 obtain ⟨x0, x1, x2, x3, x4, x5⟩ := H3.out.ins (X := bi) (x := ⟨op, a, b2, t0, cc, nn⟩) List.mem_cons_self
 have y0 : w3.cell? ⟨bk, 0, none⟩ = some (.pointer (some ⟨M, 0, none⟩)) := by rw [cell_of_row _ _ _ _ _ _ (H3.out.rows _ (List.mem_cons_of_mem _ List.mem_cons_self)).1]; rfl
 simp only at x0 x1 x2 x3 x4 x5
 go_wp2_with fail
 refine (HPL.out _ _ _ _ H3.out.cn.cl).mono ?_
 intro e w4 g4
 obtain ⟨rfl, vL4, vS4, g4⟩ := g4.rows H3.out
 have H4 := hid g4
 clear g4 x0 x1 x2 x3 x4 x5 y0
 obtain ⟨x0, x1, x2, x3, x4, x5⟩ := H4.out.ins (X := bi) (x := ⟨op, a, b2, t0, cc, nn⟩) List.mem_cons_self
 have y0 : w4.cell? ⟨bk, 0, none⟩ = some (.pointer (some ⟨M, 0, none⟩)) := by rw [cell_of_row _ _ _ _ _ _ (H4.out.rows _ (List.mem_cons_of_mem _ List.mem_cons_self)).1]; rfl
 simp only at x0 x1 x2 x3 x4 x5
 go_wp2_with fail
 refine (rheap_no _ _ op a b2 t0 cc nn HO.out w4).mono ?_
 rintro e w5 ⟨rfl, hb5⟩
 have H5 := hid (H4.out.later hb5)
 clear hb5 x0 x1 x2 x3 x4 x5 y0
 have x9 := H5.out.cn.cl.cells.2.1
 have f9 := H5.out.cn.cl.frz 9
 go_wp2_with fail
 exact step_done ⟨rfl, OthT.of_own HC.out (H5.out.cn.setAt hnext).kept, MM.upd (k := ⟨H, []⟩) HM.out HC.out HD.out HR.out (H5.out.cn.setAt hnext)⟩
theorem rstep_give {w0 w : World} {M b : Nat} {W : WL} {vT vC : Value} {G : List Th} {Bs : List Nat} {H : List Th} {c : Cl} {t : Told} {s : Nat} {ov : Bool} (h : MM w0 w M b W vT vC G Bs ⟨H, [c]⟩ t s ov)
  (a b2 : Int) (t0 cc nn : ByteArray) (hx : c.m.code[c.at_]? = some ⟨27, a, b2, t0, cc, nn⟩) (T : List Vl) (vk vn : Int) (hS : c.S = T ++ [⟨vk, vn⟩]) :
  Calls Tryz.prog 59 #[.pointer (some ⟨M, 0, none⟩)] w fun e w' => e = .returned (.tuple #[]) ∧ OthT w w' ∧ ∃ vC', MM w0 w' M b W vT vC' G [] ⟨H, []⟩ ⟨⟨vk, vn⟩, t.thrown⟩ s true := by
 obtain ⟨B, Cs, vL, vS, rfl, hc, hd, hr⟩ := h.head rfl
 obtain rfl : Cs = [] := List.eq_nil_of_length_eq_zero (by have := calls_len hr; simpa using this)
 have HS := hid hS
 clear hS
 have HM := hid h; have HC := hid hc; have HD := hid hd; have HR := hid hr
 obtain ⟨m, hm⟩ : ∃ m, ([] : List Nat).length = m := ⟨_, rfl⟩
 obtain ⟨aC, cC, hvC⟩ := h.oC.sl.val
 obtain ⟨bb, off, haC, hp⟩ := ptr_at (by have := h.oC.sl; rw [hvC] at this; exact this)
 have hlC : ([B] : List Nat).length = m + 1 := by rw [List.length_cons, hm]
 rw [hlC] at hvC
 have hm8 : m ≤ 1000000 := by have := h.len; omega
 have hm0 : (0 : Int) ≤ (m : Int) := by omega
 subst haC
 have HVC := hid hvC
 rw [hm] at hp
 have H0 := hid ((CX.of (CN.of hc)).box #[.pointer (some ⟨M, 0, none⟩)] 78)
 obtain ⟨bk, hbk⟩ : ∃ bk, w.heap.size = bk := ⟨_, rfl⟩
 obtain ⟨w1, hw1⟩ : ∃ w1, w.alloc (.cells #[.pointer (some ⟨M, 0, none⟩)] 78) = w1 := ⟨_, rfl⟩
 have HB1 : Hid (Below w.heap.size w w1) := hid (hw1 ▸ ext_alloc _ _)
 rw [hbk, hw1] at H0
 have HX : Hid (∀ u, Below w1.heap.size w1 u → u.cell? ⟨bk, 0, none⟩ = some (.pointer (some ⟨M, 0, none⟩)) ∧ u.cell? ⟨M, 2, none⟩ = some (.slice (some ⟨bb, off, none⟩) (m + 1) cC) ∧ u.cell? ⟨bb, off + m, none⟩ = some (.pointer (some ⟨B, 0, none⟩))) := hid (fun u hu => by
  have hbu := HB1.out.trans (hu.mono HB1.out.size)
  refine ⟨?_, ?_, ?_⟩
  ·rw [cell_of_row _ _ _ _ _ _ ((H0.out.later hu).rows _ List.mem_cons_self).1]; rfl
  ·rw [(HM.out.later hbu).cells.2.2.1, HVC.out]
  ·rw [hbu.cell (p := ⟨bb, off + m, none⟩) (World.block_lt_of_cell? w _ hp)]; exact hp)
 have hmf : ∀ (fn : Fn) (first cap : Array Value) (w : World), (Instr.makeFunc fn first cap).run Tryz.prog w = .ok (.func fn first cap) w := fun _ _ _ _ => rfl
 clear h hc hd hr hp hvC hlC hm
 go_enter_defers Tryz.func59, Tryz.ntmps59
 go_wp2_with fail
 refine wp_region_ext_tail 12 [] trivial (by kernel_rfl) (by kernel_rfl) ?_
 refine wpG_read 1 rfl rfl (.pointer (some ⟨M, 0, none⟩)) rfl ?_ ?_
 ·intro u hu hh
  have q := (HX.out u hu).1
  go_simp
 go_frame
 refine zgc 2 ?_
 go_frame
 refine zgc 3 ?_
 go_frame
 refine wpG_read 4 rfl rfl (.slice (some ⟨bb, off, none⟩) (m + 1) cC) rfl ?_ ?_
 ·intro u hu hh
  have q := (HX.out u hu).2.1
  go_simp
 go_frame
 refine wpG_read 5 rfl rfl (.pointer (some ⟨M, 0, none⟩)) rfl ?_ ?_
 ·intro u hu hh
  have q := (HX.out u hu).1
  go_simp
 go_frame
 refine zgc 6 ?_
 go_frame
 refine zgc 7 ?_
 go_frame
 refine wpG_read 8 rfl rfl (.slice (some ⟨bb, off, none⟩) (m + 1) cC) rfl ?_ ?_
 ·intro u hu hh
  have q := (HX.out u hu).2.1
  go_simp
 go_frame
 refine wpG_calc (v := .int .i64 ((m : Int) + 1)) 9 rfl rfl rfl (fun u => by first | (go_simp; done) | (go_simp; rfl) | (go_simp; omega) | (go_simp; rw [IntKind.wrap_i64]; omega)) ?_
 go_frame
 refine wpG_calc (v := .int .i64 (m : Int)) 10 rfl rfl rfl (fun u => by first | (go_simp; done) | (go_simp; rfl) | (go_simp; omega) | (go_simp; rw [IntKind.wrap_i64]; omega)) ?_
 go_frame
 refine wpG_calc (v := .pointer (some ⟨bb, off + m, none⟩)) 11 rfl rfl rfl (fun u => by first | (go_simp; done) | (go_simp; rfl) | (go_simp; omega) | (go_simp; rw [IntKind.wrap_i64]; omega)) ?_
 go_frame
 refine wpG_read 12 rfl rfl (.pointer (some ⟨B, 0, none⟩)) rfl ?_ ?_
 ·intro u hu hh
  have q := (HX.out u hu).2.2
  go_simp
 go_frame
 refine wpG_nil fun w' hb' hF => ?_
 have H1 := hid (H0.out.later hb')
 have HB2 : Hid (Below w.heap.size w w') := hid (HB1.out.trans (hb'.mono HB1.out.size))
 clear hb' hF HX hw1
 obtain ⟨nK, hnK⟩ : ∃ n, c.m.code.length = n := ⟨_, rfl⟩
 obtain ⟨hxl, hxe⟩ := List.getElem?_eq_some_iff.1 hx
 have hcode0 := (H1.out.cn.cl.code.below H1.out.cn.cl.below).code
 obtain ⟨aK, cK, hvK⟩ := hcode0.val
 have hcode : flows.Code w' (.slice aK c.m.code.length cK) c.m.code := by rw [← hvK]; exact hcode0
 obtain ⟨bc, oc, haK, hrest⟩ := flows.code_at hcode hxl
 subst haK
 have HFL : Hid (∀ j, j < 6 → w'.cell? ⟨bc, oc + c.at_ * 6 + j, none⟩ = (#[.int .i64 27, .int .i64 a, .int .i64 b2, .string t0, .string cc, .string nn] : Array Value)[j]?) := hid (fun j hj => by have := ins_flat hcode hxl j hj; rw [hxe] at this; exact this)
 rw [hnK] at hvK
 have HVK := hid hvK
 obtain ⟨at0, hat⟩ : ∃ n, c.at_ = n := ⟨_, rfl⟩
 have hat0 : (0 : Int) ≤ (at0 : Int) := by omega
 have hat1 : (at0 : Int) < (nK : Int) := by omega
 have HAT := hid hat
 have HX : Hid (∀ u, Below w'.heap.size w' u → u.cell? ⟨B, 7, none⟩ = some (.slice (some ⟨bc, oc, none⟩) nK cK) ∧ u.cell? ⟨B, 9, none⟩ = some (.int .i64 (at0 : Int)) ∧ ∀ j, j < 6 → u.cell? ⟨bc, oc + at0 * 6 + j, none⟩ = (#[.int .i64 27, .int .i64 a, .int .i64 b2, .string t0, .string cc, .string nn] : Array Value)[j]?) := hid (fun u hu => by
  have hcl := (H1.out.later hu).cn.cl.cells
  refine ⟨by rw [hcl.1, HVK.out], by rw [hcl.2.1, HAT.out], fun j hj => ?_⟩
  have q := HFL.out j hj
  rw [HAT.out] at q
  have q2 : ∃ v, (#[.int .i64 27, .int .i64 a, .int .i64 b2, .string t0, .string cc, .string nn] : Array Value)[j]? = some v := ⟨_, Array.getElem?_eq_getElem hj⟩
  obtain ⟨v, hv⟩ := q2
  rw [hv] at q
  rw [hu.cell (p := ⟨bc, oc + at0 * 6 + j, none⟩) (World.block_lt_of_cell? w' _ q), q, hv])
 clear hrest hx hxl hxe hcode0 hcode hvK hnK hat HFL
 go_wp2_with fail
 refine wp_region_ext_tail 12 [(11, fun v u => ∃ g, v = .pointer (some ⟨g, 0, none⟩) ∧ w'.heap.size ≤ g ∧ u.heap[g]? = some (.cells #[.int .i64 0, .int .i64 0, .int .i64 0, .string { data := #[] }, .string { data := #[] }, .string { data := #[] }] 56 (0, 0)))] ⟨fun v u u' hb ⟨g, h1, h2, h3⟩ => ⟨g, h1, h2, (hb.block _ (zh h3).1).trans h3⟩, trivial⟩ (by kernel_rfl) (by kernel_rfl) ?_
 refine zgc 1 ?_
 go_frame
 refine zgc 2 ?_
 go_frame
 refine zgc 3 ?_
 go_frame
 refine zgc 4 ?_
 go_frame
 refine wpG_read 5 rfl rfl (.slice (some ⟨bc, oc, none⟩) nK cK) rfl ?_ ?_
 ·intro u hu hh
  have q := (HX.out u hu).1
  go_simp
 go_frame
 refine zgc 6 ?_
 go_frame
 refine zgc 7 ?_
 go_frame
 refine zgc 8 ?_
 go_frame
 refine wpG_read 9 rfl rfl (.int .i64 (at0 : Int)) rfl ?_ ?_
 ·intro u hu hh
  have q := (HX.out u hu).2.1
  go_simp
 go_frame
 refine wpG_calc (v := .pointer (some ⟨bc, oc + at0 * 6, none⟩)) 10 rfl rfl rfl (fun u => by first | (go_simp; done) | (go_simp; rfl) | (go_simp; omega) | (go_simp; rw [IntKind.wrap_i64]; omega)) ?_
 go_frame
 refine wpG_read 11 rfl rfl (.agg #[.int .i64 27, .int .i64 a, .int .i64 b2, .string t0, .string cc, .string nn]) rfl ?_ ?_
 ·intro u hu hh
  have hld := run_loadVar_flat (P := Tryz.prog) u bc (oc + at0 * 6) 56 #[.int .i64 27, .int .i64 a, .int .i64 b2, .string t0, .string cc, .string nn] _ ((HX.out u hu).2.2) Tryz.underlying56 rfl (by kernel_rfl)
  unfold execOp
  simp only [Act.eval, Instr.loadAt, Instr.sureAddr, Sem.run_bind, Sem.run_pure]
  change ((Sem.run Tryz.prog (loadVar 56 ⟨bc, oc + at0 * 6, none⟩) u).andThen fun a w' => Result.ok (Next.value a) w') = _
  rw [hld]
  rfl
 go_frame
 refine wpG_rel 12 rfl rfl rfl ?_ ?_
 ·intro u hu hh
  go_simp
  exact ⟨⟨u.heap.size, rfl, hu.size, heap_alloc_new _ _⟩, ext_alloc _ _⟩
 intro vP ⟨uP, _, hrP⟩
 go_frame
 refine wpG_nil fun w2 hb' hF => ?_
 obtain ⟨bi, hvP, hle, hri⟩ : ∃ g, vP = .pointer (some ⟨g, 0, none⟩) ∧ w'.heap.size ≤ g ∧ w2.heap[g]? = some (.cells #[.int .i64 0, .int .i64 0, .int .i64 0, .string { data := #[] }, .string { data := #[] }, .string { data := #[] }] 56 (0, 0)) := hF 11
 subst hvP
 have H2 := hid (H1.out.add hb' hri hle)
 have HNE : Hid (bk ≠ bi) := hid (by
  have := (zh (H1.out.rows _ List.mem_cons_self).1).1
  simp only at this
  omega)
 clear hb' hF HX hle
 simp only [List.drop_succ_cons, List.drop_zero, List.getElem_toArray, List.getElem_cons_zero, List.getElem_cons_succ]
 refine wpList_store_row rfl 56 (.tmp 3) (.tmp 29) rfl bi #[.int .i64 27, .int .i64 a, .int .i64 b2, .string t0, .string cc, .string nn] rfl rfl 56 _ hri (by kernel_rfl) rfl (by simp [Value.oneCell']) ?_
 have H3 := hid (H2.out.set (cs' := #[.int .i64 27, .int .i64 a, .int .i64 b2, .string t0, .string cc, .string nn]) (by intro q hq; rw [List.mem_singleton.1 hq]; exact HNE.out))
 obtain ⟨w3, hw3⟩ : ∃ w3, w2.setRow bi #[.int .i64 27, .int .i64 a, .int .i64 b2, .string t0, .string cc, .string nn] = w3 := ⟨_, rfl⟩
 rw [hw3] at H3 ⊢
 clear hw3 hri
 obtain ⟨x0, x1, x2, x3, x4, x5⟩ := H3.out.ins (X := bi) (x := ⟨27, a, b2, t0, cc, nn⟩) List.mem_cons_self
 have y0 : w3.cell? ⟨bk, 0, none⟩ = some (.pointer (some ⟨M, 0, none⟩)) := by rw [cell_of_row _ _ _ _ _ _ (H3.out.rows _ (List.mem_cons_of_mem _ List.mem_cons_self)).1]; rfl
 simp only at x0 x1 x2 x3 x4 x5
 have HBM : Hid (¬ bk = M) := hid (by have := HM.out.lt; omega)
 have H3d := hid (H3.out.later (Below.refl _ _).drew)
 have HP3 : Hid (CL w0 (World.drew w3) B { c with S := T ++ [⟨vk, vn⟩] } vL vS) := hid (by rw [← HS.out]; exact H3d.out.cn.cl)
 have HJ3 : Hid ((World.drew w3).heap[bk]? = some (.cells #[.pointer (some ⟨M, 0, none⟩)] 78 (0, 0))) := hid (H3d.out.rows _ (List.mem_cons_of_mem _ List.mem_cons_self)).1
 go_wp2_with fail
 refine wp_region_j (fun u => u.heap[bk]? = some (.cells #[.pointer (some ⟨M, 0, none⟩)] 78 (0, 0))) (fun _ _ => False) (fun _ _ _ _ h => h.elim) rfl ?_
 change grow.wpAnyJ _ .any _ _ _ _ 4 (Array.replicate 4 false) _ (World.drew _)
 refine j_read HJ3.out 0 _ (.pointer (some ⟨M, 0, none⟩)) rfl (by kernel_rfl) (by kernel_rfl) (by kernel_rfl) (by rfl) (fun u hu => by have q : u.cell? ⟨bk, 0, none⟩ = some (.pointer (some ⟨M, 0, none⟩)) := (cell_of_row _ _ _ _ _ _ hu); go_simp) ?_
 simp only [zg1, zg2, zg3, Act.put, zg4, zg5, zg6]
 refine j_read HJ3.out 1 _ (_) rfl (by kernel_rfl) (by kernel_rfl) (by kernel_rfl) (by rfl) (fun u _ => by go_simp; rfl) ?_
 simp only [zg1, zg2, zg3, Act.put, zg4, zg5, zg6]
 refine j_only 2 _ rfl (by kernel_rfl) (by rfl) ?_
 unfold growUponP
 go_simp
 refine (rpop T vk vn HP3.out).mono ?_
 intro e w4 g4
 obtain ⟨rfl, vL4, vS4, g4⟩ := g4.rows H3d.out
 have H4 := hid g4
 have HJ4 : Hid (w4.heap[bk]? = some (.cells #[.pointer (some ⟨M, 0, none⟩)] 78 (0, 0))) := hid (g4.rows _ (List.mem_cons_of_mem _ List.mem_cons_self)).1
 have HOT4 := hid (OthT.of_own HC.out g4.cn.kept)
 have HM4 := hid (MM.upd (k := ⟨H, []⟩) HM.out HC.out HD.out HR.out g4.cn)
 clear g4
 refine ⟨_, rfl, HJ4.out, ?_⟩
 try simp only [zg1, zg2, zg3, Act.put, zg4, zg5, zg6]
 refine j_only 3 _ rfl (by kernel_rfl) (by rfl) ?_
 unfold growUponP
 go_simp
 refine (rleave_last vk vn HM4.out).mono ?_
 rintro e w5 ⟨rfl, hk5, vC5, hm5⟩
 have HM5 := hid hm5
 have HOT5 := hid (HOT4.out.trans (OthT.of_row HM4.out.row hk5))
 have HJ5 : Hid (w5.heap[bk]? = some (.cells #[.pointer (some ⟨M, 0, none⟩)] 78 (0, 0))) := hid ((hk5.block _ (zh HJ4.out).1 HBM.out).trans HJ4.out)
 clear hk5 hm5
 refine ⟨_, rfl, HJ5.out, ?_⟩
 try simp only [zg1, zg2, zg3, Act.put, zg4, zg5, zg6]
 refine j_end (by kernel_rfl) ?_
 go_wp2_with fail
 exact step_done ⟨rfl, HOT5.out, vC5, HM5.out⟩
theorem MM.setSteps {w0 w : World} {M b : Nat} {W : WL} {vT vC : Value} {G : List Th} {Bs : List Nat} {k : Mac} {t : Told} {s : Nat} {ov : Bool} (h : MM w0 w M b W vT vC G Bs k t s ov) (n : Nat) : MM w0 (w.setCell ⟨M, 6, none⟩ (.int .i64 (n : Int))) M b W vT vC G Bs k t n ov := by
 have hk := Keeps.set w M 6 (.int .i64 (n : Int))
 have hF : ∀ q, q = M → w0.heap.size ≤ q := fun q e => e ▸ h.le
 refine ⟨?_, h.le, h.wd, h.heap.keeps hk (fun q hq e => (h.neH q hq).1 e) hF, h.same, out_keeps h.oC hk (fun q hq e => h.neC (e ▸ hq)) hF, calls_keeps hk hF h.calls (fun q e => .inl e) (fun q e => .inl e), h.neC, h.neH, h.len⟩
 rw [heap_set h.row]; rfl
theorem setCell_same {w : World} {b i : Nat} {cs : Array Value} {t : TypeId} {v : Value} (h : w.heap[b]? = some (.cells cs t (0, 0))) (hc : cs.setIfInBounds i v = cs) : w.setCell ⟨b, i, none⟩ v = w := by
 have hm : (w.setCell ⟨b, i, none⟩ v).heap = w.heap := by
  apply Array.ext_getElem?
  intro k
  by_cases hk : k = b
  ·subst hk; rw [heap_set h, hc, h]
  ·exact heap_setCell_other w ⟨b, i, none⟩ k v hk
 unfold World.setCell at hm ⊢
 cases w
 simp only at hm ⊢
 congr
theorem run_done {tmps : Array Value} {w : World} {be : Nat} {v : Value} {Q : Ending → World → Prop} (h4 : tmps.getD 4 undef = .pointer (some ⟨be, 0, none⟩)) (hr : w.heap[be]? = some (.cells #[v] 30 (0, 0))) (hQ : Q (.returned v) w) :
  Leaves Tryz.prog Tryz.f30 tmps Q [{ target := .fn (.func 58) #[.pointer (some ⟨be, 0, none⟩)], args := #[] }] .returning w := by
 refine leaves_cons (f := 58) (args := #[.pointer (some ⟨be, 0, none⟩)]) (by simp) (by simp [go_sem]) ?_
 refine (run_idle be w).mono ?_
 rintro e u' w9 ⟨rfl, rfl, rfl⟩
 have h4' : tmps[4]?.getD undef = .pointer (some ⟨be, 0, none⟩) := by simpa using h4
 have c0 : w9.cell? ⟨be, 0, none⟩ = some v := by rw [cell_of_row _ _ _ _ _ _ hr]; rfl
 refine ⟨v, ?_, hQ⟩
 simp [results, Tryz.results30, h4', go_sem, c0]
theorem rrun_any {w0 w : World} {M b : Nat} {W : WL} {vT vC : Value} {G : List Th} {Bs : List Nat} (N fuel : Nat) (K : Nat → Mac) (T : Nat → Told) (h : MM w0 w M b W vT vC G Bs (K 0) (T 0) 0 (decide (0 = N))) (hN : N ≤ fuel) (hf : fuel ≤ 1000000)
  (hst : ∀ i, i < N → ∀ (u : World) (vT vC : Value) (G : List Th) (Bs : List Nat) (s : Nat), MM w0 u M b W vT vC G Bs (K i) (T i) s false → Calls Tryz.prog 59 #[.pointer (some ⟨M, 0, none⟩)] u fun e w' => e = .returned (.tuple #[]) ∧ OthT u w' ∧ ∃ vT vC G Bs, MM w0 w' M b W vT vC G Bs (K (i + 1)) (T (i + 1)) s (decide (i + 1 = N))) :
  Calls Tryz.prog 30 #[.pointer (some ⟨M, 0, none⟩), .int .i64 (fuel : Int)] w fun e w' => e = .returned .nilIface ∧ OthT w w' ∧ ∃ vT vC G Bs, MM w0 w' M b W vT vC G Bs (K N) (T N) N true := by
 obtain ⟨be, hbe⟩ : ∃ be, w.heap.size = be := ⟨_, rfl⟩
 obtain ⟨w1, hw1⟩ : ∃ w1, w.alloc (.cells #[.nilIface] 30) = w1 := ⟨_, rfl⟩
 have hb1 : Below w.heap.size w w1 := hw1 ▸ ext_alloc _ _
 have HOT1 := hid (OthT.of_below hb1)
 have HR1 : Hid (w1.heap[be]? = some (.cells #[.nilIface] 30 (0, 0))) := hid (by rw [← hw1, ← hbe]; exact heap_alloc_new _ _)
 have H1 := hid (h.later hb1)
 have HST := hid hst
 have hmf : ∀ (fn : Fn) (first cap : Array Value) (w : World), (Instr.makeFunc fn first cap).run Tryz.prog w = .ok (.func fn first cap) w := fun _ _ _ _ => rfl
 clear h hb1 hst
 go_enter_defers Tryz.func30, Tryz.ntmps30
 go_wp2_with fail
 clear hw1
 go_loopg [] N (fun gh wr => ∃ (i : Nat) (vT vC : Value) (G : List Th) (Bs : List Nat), gh = N - i ∧ i ≤ N ∧ Hid (MM w0 wr M b W vT vC G Bs (K i) (T i) i (decide (i = N))) ∧ Hid (OthT w wr) ∧ Hid (wr.heap[be]? = some (.cells #[.nilIface] 30 (0, 0))))
 case atStart => exact ⟨0, vT, vC, G, Bs, by omega, Nat.zero_le _, H1, HOT1, HR1⟩
 case round =>
  obtain ⟨i, vT, vC, G, Bs, hgh, hi, HM, HOT, HR⟩ := hrel
  have HGH := hid hgh
  clear hgh
  obtain ⟨wb, hwb⟩ : ∃ wb, wb = wr := ⟨_, rfl⟩
  subst hwb
  obtain ⟨x0, x1, x2, x3, x4, x5, x6, x7⟩ := HM.out.cells
  have e0 : wb.cell? ⟨be, 0, none⟩ = some .nilIface := by rw [cell_of_row _ _ _ _ _ _ HR.out]; rfl
  have f0 : wb.frozen? ⟨be, 0, none⟩ = false := frozen_of_row _ _ _ _ _ HR.out
  have f6 := HM.out.frz 6
  by_cases hlt : i < N
  ·have hov : decide (i = N) = false := by simp; omega
   rw [hov] at x7
   have hne : ¬ (i : Int) = (fuel : Int) := by omega
   have hi1 : (i : Int) ≤ 1000000 := by omega
   have hi0 : (0 : Int) ≤ (i : Int) := by omega
   have HM2 := hid (HM.out.setSteps (i + 1))
   have HOT2 := hid (HOT.out.trans (OthT.of_row HM.out.row (Keeps.set wb M 6 (.int .i64 ((i + 1 : Nat) : Int)))))
   have HLT := hid hlt
   have HOV := hid hov
   clear hov
   go_wp2_with fail
   refine (HST.out i HLT.out (wb.setCell ⟨M, 6, none⟩ (.int .i64 ((i : Int) + 1))) _ _ _ _ (i + 1) (by have := HM2.out; rw [HOV.out] at this; exact this)).mono ?_
   rintro e w5 ⟨rfl, ho5, vT5, vC5, G5, Bs5, hm5⟩
   have HM5 := hid hm5
   have HOT5 := hid (HOT2.out.trans ho5)
   have HR5 : Hid (w5.heap[be]? = some (.cells #[.nilIface] 30 (0, 0))) := hid ((OthT.trans (OthT.of_row HM.out.row (Keeps.set wb M 6 (.int .i64 ((i + 1 : Nat) : Int)))) ho5).2 be _ _ HR.out (by decide) (by decide) (by decide) (by decide) (by decide))
   clear hm5 ho5 x0 x1 x2 x3 x4 x5 x6 x7 e0 f0 f6
   go_wp2_with fail
   go_roundg (N - (i + 1))
   case rel => exact ⟨i + 1, vT5, vC5, G5, Bs5, rfl, HLT.out, HM5, HOT5, HR5⟩
   case measure => have := HGH.out; have := HLT.out; omega
  ·obtain rfl : N = i := by omega
   have hov : decide (N = N) = true := by simp
   rw [hov] at x7
   have HME : Hid (MM w0 wb M b W vT vC G Bs (K N) (T N) N true) := hid (by have := HM.out; rwa [hov] at this)
   have HSC : Hid (wb.setCell ⟨be, 0, none⟩ .nilIface = wb) := hid (setCell_same HR.out rfl)
   clear hov
   go_wp2_with fail
   rw [HSC.out]
   exact run_done (be := be) rfl HR.out ⟨rfl, HOT.out, _, _, _, _, HME.out⟩
theorem run_copy_rows {P : Program} (w : World) (dT sT ty elem : TypeId) (g o dLen dCap sz m : Nat) (a : Addr) (sLen sCap : Nat) (cur : Array Value) (t : TypeId) (cs : List Value)
  (hu : P.underlying dT = some (.slice elem)) (hs : (P.info? elem).map (·.size) = some sz)
  (hg : w.heap[g]? = some (.cells cur t (0, 0))) (hm : m = Nat.min sLen dLen) (hn : cs.length = m * sz)
  (hsrc : ∀ j v, cs[j]? = some v → w.cell? (a.add j) = some v) (hfit : o + cs.length ≤ cur.size) (h1 : ∀ v ∈ cs, v.oneCell' = true) :
  (Builtin.copy_ #[dT, sT] ty #[.slice (some ⟨g, o, none⟩) dLen dCap, .slice (some a) sLen sCap]).run P w =
   .ok (goInt m) (w.setRow g (cur.toList.take o ++ cs ++ cur.toList.drop (o + cs.length)).toArray) := by
 have hl := run_loadCells_list (P := P) w a cs hsrc
 have hst := run_storeCells_at P g o t cs 0 cur w hg (by simpa using hfit) h1
 cases hq : P.info? elem with
 | none => simp [hq] at hs
 | some i =>
  have hi : i.size = sz := by simpa [hq] using hs
  simp [Builtin.copy_, run_underlying hu, Builtin.lenOf, Builtin.firstCells, sizeOf, typeInfo, hq, hi, ← hm, ← hn, hl, hst]
theorem made_vals (n : Nat) : (madeCells #[.int .i64 0, .int .i64 0] (n * 2)).toList = vcells (List.replicate n noV) := by
 induction n with
 | zero => simp [madeCells]
 | succ n ih =>
  rw [List.replicate_succ', vcells, List.flatMap_append, ← vcells, ← ih]
  unfold madeCells
  rw [Nat.succ_mul, Array.toList_map, Array.toList_map, Array.toList_range, Array.toList_range, List.range_add, List.map_append]
  congr 1
  have h1 : (n * 2 + 0) % 2 = 0 := by omega
  have h2 : (n * 2 + 1) % 2 = 1 := by omega
  simp [List.range_succ, noV, Vl.cells, h1, h2]
theorem make_novs (n : Nat) (hn : n ≤ 1000000) (u : World) : (Instr.makeSlice 34 (.int .i64 (n : Int)) (.int .i64 (n : Int))).run Tryz.prog u = .ok (.slice (some ⟨u.heap.size, 0, none⟩) n n) (u.alloc (.cells (vcells (List.replicate n noV)).toArray 36)) := by
 obtain ⟨si, hsi, hz, hsz, hby⟩ := info_parts infoV
 have := run_makeSlice (P := Tryz.prog) u 34 36 si _ Tryz.underlying34 hsi hz .i64 .i64 (n : Int) (n : Int) (by omega) (by omega) (by rw [hsz]; simp; omega) (by rw [hby]; omega) (by omega)
 rw [hsz] at this
 simp only [Int.toNat_natCast] at this
 rw [show (Value.agg #[.int .i64 0, .int .i64 0]).cells = #[.int .i64 0, .int .i64 0] from rfl] at this
 rw [this, ← made_vals, Array.toArray_toList]
theorem novs_tail (args : List Vl) (n : Nat) (hn : args.length ≤ n) : ((vcells (List.replicate n noV)).toArray.toList.take 0 ++ vcells args ++ (vcells (List.replicate n noV)).toArray.toList.drop (0 + (vcells args).length)).toArray = (vcells (args ++ List.replicate (n - args.length) noV)).toArray := by
 have hl : ∀ l : List Vl, (vcells l).length = l.length * 2 := fun l => flat_len (cells := Vl.cells) (sz := 2) (fun _ => rfl) l
 have h1 : List.replicate n noV = List.replicate args.length noV ++ List.replicate (n - args.length) noV := by rw [List.replicate_append_replicate]; congr 1; omega
 have h2 : vcells (List.replicate n noV) = vcells (List.replicate args.length noV) ++ vcells (List.replicate (n - args.length) noV) := by rw [vcells, h1, List.flatMap_append]
 have h3 : (vcells (List.replicate args.length noV)).length = (vcells args).length := by rw [hl, hl, List.length_replicate]
 simp only [List.take_zero, List.nil_append, Nat.zero_add]
 rw [h2, ← h3, List.drop_left]
 simp [vcells, List.flatMap_append]
theorem MM.push {w0 w w4 w5 : World} {M b : Nat} {W : WL} {vT vC vC2 : Value} {G : List Th} {Bs : List Nat} {H : List Th} {r : List Cl} {t : Told} {s : Nat} {ov : Bool} {bg : Nat} {c : Cl} {vL vS : Value} (h : MM w0 w M b W vT vC G Bs ⟨H, r⟩ t s ov) (hb : Below w.heap.size w w4) (hg : w4.grownBy w5 vC.ownBlock)
  (ho : Out w0 w5 123 1 vC2 (Bs.length + 1) (ptrs (bg :: Bs))) (hat : vC2.ownBlock = vC.ownBlock ∨ ∃ k, vC2.ownBlock = some k ∧ w4.heap.size ≤ k) (hc : CL w0 w4 bg c vL vS) (hn : ∀ q, own bg vL vS q → w.heap.size ≤ q) (hlen : Bs.length < 1000000) :
  MM w0 (w5.setCell ⟨M, 2, none⟩ vC2) M b W vT vC2 G (bg :: Bs) ⟨H, c :: r⟩ t s ov ∧ w5.cell? ⟨M, 2, none⟩ = some vC ∧ w5.frozen? ⟨M, 2, none⟩ = false := by
 have hM4 := h.later hb
 have hMlt := h.lt
 have hs4 := hb.size
 have hr5 : w5.heap[M]? = _ := (hg.block M hM4.lt fun e => h.neC e.symm).trans hM4.row
 have hk2 : Keeps (fun q => q = M) w5 (w5.setCell ⟨M, 2, none⟩ vC2) := Keeps.set w5 M 2 vC2
 have hk1 : Keeps (fun q => some q = vC.ownBlock) w4 w5 := Keeps.grown hg
 have hkF : Keeps (fun q => vC.ownBlock = some q ∨ q = M) w4 (w5.setCell ⟨M, 2, none⟩ vC2) := (hk1.mono fun q _ e => .inl e.symm).trans (hk2.mono fun q _ e => .inr e)
 have hkw : Keeps (fun q => vC.ownBlock = some q ∨ q = M) w (w5.setCell ⟨M, 2, none⟩ vC2) := (Keeps.of_below hb).trans hkF
 have hF0 : ∀ q, (vC.ownBlock = some q ∨ q = M) → w0.heap.size ≤ q := fun q e => e.elim (fun e => (h.oC.own.lt q e).1) (fun e => e ▸ h.le)
 have hFw : ∀ q, (vC.ownBlock = some q ∨ q = M) → q < w.heap.size := fun q e => e.elim (fun e => (h.oC.own.lt q e).2) (fun e => e ▸ hMlt)
 have hv2 : ∀ q, vC2.ownBlock = some q → vC.ownBlock = some q ∨ w4.heap.size ≤ q := fun q e => by
  rcases hat with h1 | ⟨k, h1, h2⟩
  ·exact .inl (h1 ▸ e)
  ·rw [h1] at e; obtain rfl := Option.some.inj e; exact .inr h2
 refine ⟨⟨?_, h.le, h.wd, h.heap.keeps hkw (fun q hq e => by
   rcases e with e | e
   ·exact (h.neH q hq).2 e
   ·exact (h.neH q hq).1 e) hF0, h.same, out_keeps ho hk2 (fun q hq e => ?_) (fun q e => e ▸ h.le), ⟨vL, vS, hc.keeps hkF (fun q hq e => by have := hn q hq; have := hFw q e; omega) hF0, fun q hq e => ?_, calls_keeps hkw hF0 h.calls (fun q e => e.elim (fun e => .inr (.inl e)) (fun e => .inl e)) fun q e => ?_⟩, fun e => ?_, fun q hq => ⟨(h.neH q hq).1, fun e => ?_⟩, by rw [List.length_cons]; omega⟩, by rw [cell_of_row _ _ _ _ _ _ hr5]; rfl, frozen_of_row _ _ _ _ _ hr5⟩
 ·rw [heap_set hr5]; rfl
 ·subst e
  rcases hv2 q hq with h1 | h1
  ·exact h.neC h1
  ·omega
 ·have h1 := hn q hq
  rcases e with rfl | e | e
  ·omega
  ·rcases hv2 q e with h2 | h2
   ·have := (h.oC.own.lt q h2).2; omega
   ·have := (hc.own_lt hq).2; omega
  ·have := (h.heap.lt e).2; omega
 ·rcases e with (e | e | e) | e
  ·exact .inl (.inl e)
  ·rcases hv2 q e with h2 | h2
   ·exact .inl (.inr (.inl h2))
   ·exact .inr (by omega)
  ·exact .inl (.inr (.inr e))
  ·exact .inr (hn q e)
 ·rcases hv2 M e with h1 | h1
  ·exact h.neC h1
  ·omega
 ·rcases hv2 q e with h1 | h1
  ·exact (h.neH q hq).2 h1
  ·have := (h.heap.lt hq).2; omega
theorem infoC : (Tryz.prog.info? 123).map (fun i => (i.zero, i.size, i.bytes)) = some (some (.pointer none), 1, 8) := by kernel_rfl
theorem renter_some {w0 w : World} {M b : Nat} {W : WL} {vT vC : Value} {G : List Th} {Bs : List Nat} {H : List Th} {r : List Cl} {t : Told} {s : Nat} {ov : Bool} (h : MM w0 w M b W vT vC G Bs ⟨H, r⟩ t s ov) (hB : Bs.length < 20)
  (cls nm ty : ByteArray) (st ab pr : Bool) (lo : Nat) (vc vh : Value) (code : List I) (hs : List hdls.Hd) (hlo : lo ≤ 1000000) (hm : (⟨nm, ty, st, ab, pr, (lo : Int), vc, vh, code, hs⟩ : MV).At w0) (ad : Addr) (na ca : Nat) (args : List Vl) (ha : Vls w (.slice (some ad) na ca) args) (hna : args.length = na) (hal : na ≤ lo) :
  Calls Tryz.prog 29 #[.pointer (some ⟨M, 0, none⟩), .string cls, .agg #[.string nm, .string ty, .bool st, .bool ab, .bool pr, .int .i64 (lo : Int), vc, vh], .slice (some ad) na ca] w fun e w' => e = .returned (.tuple #[]) ∧ OthT w w' ∧ ∃ vC2 bg, MM w0 w' M b W vT vC2 G (bg :: Bs) ⟨H, ⟨cls, ⟨nm, ty, st, ab, pr, (lo : Int), vc, vh, code, hs⟩, 0, args ++ List.replicate (lo - na) noV, []⟩ :: r⟩ t s ov := by
 obtain ⟨n, hn⟩ : ∃ n, Bs.length = n := ⟨_, rfl⟩
 obtain ⟨aC, cC, hvC⟩ := h.oC.sl.val
 rw [hn] at hvC hB
 subst hvC
 have hn20 : (n : Int) < 20 := by omega
 obtain ⟨bm, hbm⟩ : ∃ b, w.heap.size = b := ⟨_, rfl⟩
 obtain ⟨w1, hw1⟩ : ∃ w1, w.alloc (.cells #[.string nm, .string ty, .bool st, .bool ab, .bool pr, .int .i64 (lo : Int), vc, vh] 44) = w1 := ⟨_, rfl⟩
 have hb1 : Below w.heap.size w w1 := hw1 ▸ ext_alloc _ _
 have hrm : w1.heap[bm]? = some (.cells #[.string nm, .string ty, .bool st, .bool ab, .bool pr, .int .i64 (lo : Int), vc, vh] 44 (0, 0)) := by rw [← hw1, ← hbm]; exact heap_alloc_new _ _
 obtain ⟨bl, hbl⟩ : ∃ b, w1.heap.size = b := ⟨_, rfl⟩
 obtain ⟨L0, hL0⟩ : ∃ L, (vcells (List.replicate lo noV)).toArray = L := ⟨_, rfl⟩
 obtain ⟨w2, hw2⟩ : ∃ w2, w1.alloc (.cells L0 36) = w2 := ⟨_, rfl⟩
 have hb2 : Below w1.heap.size w1 w2 := hw2 ▸ ext_alloc _ _
 have hrl : w2.heap[bl]? = some (.cells L0 36 (0, 0)) := by rw [← hw2, ← hbl]; exact heap_alloc_new _ _
 have hmk := make_novs lo hlo
 rw [hL0] at hmk
 obtain ⟨L1, hL1⟩ : ∃ L, (vcells (args ++ List.replicate (lo - na) noV)).toArray = L := ⟨_, rfl⟩
 obtain ⟨V1, hV1⟩ : ∃ L, vcells args = L := ⟨_, rfl⟩
 have HNEW : Hid ((L0.toList.take 0 ++ V1 ++ L0.toList.drop (0 + V1.length)).toArray = L1) := hid (by rw [← hL0, ← hL1, ← hV1, ← hna]; exact novs_tail args lo (by omega))
 have hVl : V1.length = na * 2 := by rw [← hV1, ← hna]; exact flat_len (cells := Vl.cells) (sz := 2) (fun _ => rfl) args
 have HL0 : Hid (L0.size = lo * 2) := hid (by rw [← hL0]; simp only [List.size_toArray]; rw [flat_len (cells := Vl.cells) (sz := 2) (fun _ => rfl), List.length_replicate])
 have HSRC : Hid (∀ j v, V1[j]? = some v → w2.cell? (ad.add j) = some v) := hid (fun j v hj => by
  rw [← hV1] at hj
  obtain ⟨_, a', c', he, _, hx⟩ := (ha.below (hb1.trans (hb2.mono hb1.size)))
  simp only [Value.slice.injEq] at he
  obtain ⟨rfl, _, _⟩ := he
  rcases hx with hx | ⟨b', off, hb', hx⟩
  ·rw [show vcells args = [] from hx] at hj; cases hj
  ·obtain rfl := Option.some.inj hb'
   rw [Addr.add_lit]; exact hx j v hj)
 have HONE : Hid (∀ v ∈ V1, v.oneCell' = true) := hid (fun v hv => by
  rw [← hV1] at hv
  obtain ⟨x, _, hx⟩ := List.mem_flatMap.1 hv
  simp only [Vl.cells, List.mem_cons, List.not_mem_nil, or_false] at hx
  rcases hx with rfl | rfl <;> rfl)
 have HVL := hid hVl
 obtain ⟨w3, hw3⟩ : ∃ w3, w2.setRow bl L1 = w3 := ⟨_, rfl⟩
 have hb3 : Below w1.heap.size w1 w3 := hw3 ▸ below_setRow hb2 (by omega) _
 have HB13 := hid hb3
 have HB3 : Hid (Below w.heap.size w w3) := hid (hb1.trans (hb3.mono hb1.size))
 have HRM3 : Hid (w3.heap[bm]? = some (.cells #[.string nm, .string ty, .bool st, .bool ab, .bool pr, .int .i64 (lo : Int), vc, vh] 44 (0, 0))) := hid ((hb3.block _ (zh hrm).1).trans hrm)
 have HRL3 : Hid (w3.heap[bl]? = some (.cells L1 36 (0, 0))) := hid (hw3 ▸ setRow_heap _ _ _ _ _ _ hrl)
 have HRL := hid hrl
 have HM := hid h
 have HM3 := hid (h.later HB3.out)
 have HX : Hid (∀ u, Below w3.heap.size w3 u → u.cell? ⟨M, 2, none⟩ = some (.slice aC n cC) ∧ u.heap[bm]? = some (.cells #[.string nm, .string ty, .bool st, .bool ab, .bool pr, .int .i64 (lo : Int), vc, vh] 44 (0, 0))) := hid (fun u hu => ⟨(HM3.out.later hu).cells.2.2.1, (hu.block _ (zh HRM3.out).1).trans HRM3.out⟩)
 have x2 := (h.later hb1).cells.2.2.1
 have z5 : w1.cell? ⟨bm, 5, none⟩ = some (.int .i64 (lo : Int)) := by rw [cell_of_row _ _ _ _ _ _ hrm]; rfl
 have hlo0 : (0 : Int) ≤ (lo : Int) := by omega
 have HBL : Hid (w.heap.size ≤ bl ∧ bl < w3.heap.size) := hid ⟨by rw [← hbl]; exact hb1.size, (zh HRL3.out).1⟩
 have HLL : Hid (L1.toList = vcells (args ++ List.replicate (lo - na) noV) ∧ (args ++ List.replicate (lo - na) noV).length = lo) := hid ⟨by rw [← hL1], by rw [List.length_append, List.length_replicate, hna]; omega⟩
 have hcp : (Builtin.copy_ #[34, 34] 3 #[.slice (some ⟨bl, 0, none⟩) lo lo, .slice (some ad) na ca]).run Tryz.prog w2 = .ok (goInt na) w3 := by
  have := run_copy_rows (P := Tryz.prog) w2 34 34 3 36 bl 0 lo lo 2 na ad na ca L0 36 V1 Tryz.underlying34 (by kernel_rfl) HRL.out (by simp [Nat.min_def]; omega) HVL.out HSRC.out (by rw [HL0.out, HVL.out]; omega) HONE.out
  rw [HNEW.out, hw3] at this
  exact this
 have HMA := hid hm
 have HN := hid hn
 clear h hrm hrl hb1 hb2 hb3 hVl hL0 hL1 hV1 hm hn hna ha hw3
 go_enter Tryz.func29, Tryz.ntmps29
 go_wp2_with fail
 refine wp_region_ext_tail1 11 [(9, fun v u => ∃ g, v = .pointer (some ⟨g, 0, none⟩) ∧ w3.heap.size ≤ g ∧ u.heap[g]? = some (.cells #[.string cls, .string nm, .string ty, .bool st, .bool ab, .bool pr, .int .i64 (lo : Int), vc, vh, .int .i64 0, .slice (some ⟨bl, 0, none⟩) lo lo, .slice none 0 0] 125 (0, 0))), (10, fun v u => ∃ g, Sl u v 1 1 [.pointer (some ⟨g, 0, none⟩)] ∧ w3.heap.size ≤ g ∧ u.heap[g]? = some (.cells #[.string cls, .string nm, .string ty, .bool st, .bool ab, .bool pr, .int .i64 (lo : Int), vc, vh, .int .i64 0, .slice (some ⟨bl, 0, none⟩) lo lo, .slice none 0 0] 125 (0, 0)))]
  ⟨fun v u u' hb ⟨g, h1, h2, h3⟩ => ⟨g, h1, h2, (hb.block _ (zh h3).1).trans h3⟩, fun v u u' hb ⟨g, h1, h2, h3⟩ => ⟨g, h1.below hb, h2, (hb.block _ (zh h3).1).trans h3⟩, trivial⟩ (by kernel_rfl) (by kernel_rfl) (by simp) (by decide) (by kernel_rfl) (by kernel_rfl) (by kernel_rfl) (by kernel_rfl) (by kernel_rfl) _ rfl (fun u => by go_simp; rfl) (fun c a' w' h => h) ?_
 go_frame
 refine zgc 2 ?_
 go_frame
 refine zgc 3 ?_
 go_frame
 refine zgc 4 ?_
 go_frame
 refine wpG_read 5 rfl rfl (.slice aC n cC) rfl ?_ ?_
 ·intro u hu hh
  have q := (HX.out u hu).1
  go_simp
 go_frame
 refine zgc 6 ?_
 go_frame
 refine wpG_read 7 rfl rfl (.agg #[.string nm, .string ty, .bool st, .bool ab, .bool pr, .int .i64 (lo : Int), vc, vh]) rfl ?_ ?_
 ·intro u hu hh
  have hR := (HX.out u hu).2
  exact (by have hl := run_loadVar_row (P := Tryz.prog) u bm 44 44 #[.string nm, .string ty, .bool st, .bool ab, .bool pr, .int .i64 (lo : Int), vc, vh] (0, 0) _ hR Tryz.underlying44 rfl (by kernel_rfl); (try simp only [List.getElem_toArray, List.getElem_cons_zero, List.getElem_cons_succ]); unfold execOp; simp only [Act.eval, Instr.loadAt, Instr.sureAddr, Sem.run_bind, Sem.run_pure]; change ((Sem.run Tryz.prog (loadVar 44 ⟨bm, 0, none⟩) u).andThen fun a w' => Result.ok (Next.value a) w') = _; rw [hl]; rfl)
 go_frame
 refine zgc 8 ?_
 go_frame
 refine wpG_calc (v := .agg #[.string cls, .string nm, .string ty, .bool st, .bool ab, .bool pr, .int .i64 (lo : Int), vc, vh, .int .i64 0, .slice (some ⟨bl, 0, none⟩) lo lo, .slice none 0 0]) 9 rfl rfl rfl (fun u => by first | (go_simp; done) | (go_simp; rfl) | (go_simp; omega)) ?_
 go_frame
 refine wpG_rel 10 rfl rfl rfl ?_ ?_
 ·intro u hu hh
  go_simp
  exact ⟨⟨u.heap.size, rfl, hu.size, heap_alloc_new _ _⟩, ext_alloc _ _⟩
 intro vP ⟨uP, _, hrP⟩
 go_frame
 refine wpG_rel 11 rfl rfl rfl ?_ ?_
 ·intro u hu hh
  obtain ⟨g, hg1, hg2, hg3⟩ := hh 9 (by kernel_rfl)
  subst hg1
  go_simp
  exact ⟨⟨g, Sl.lit u #[.pointer (some ⟨g, 0, none⟩)] 123 1 1 rfl, hg2, (Below.heap_alloc _ _ _ (zh hg3).1).trans hg3⟩, ext_alloc _ _⟩
 intro vQ ⟨uQ, _, hrQ⟩
 go_frame
 refine wpG_nil fun w' hb' hF => ?_
 obtain ⟨bg, hsB, hgle, hrg⟩ : ∃ g, Sl w' vQ 1 1 [.pointer (some ⟨g, 0, none⟩)] ∧ w3.heap.size ≤ g ∧ w'.heap[g]? = some (.cells #[.string cls, .string nm, .string ty, .bool st, .bool ab, .bool pr, .int .i64 (lo : Int), vc, vh, .int .i64 0, .slice (some ⟨bl, 0, none⟩) lo lo, .slice none 0 0] 125 (0, 0)) := hF 10
 obtain ⟨gQ, cQ, hvQ⟩ := hsB.val
 subst hvQ
 have HB4 : Hid (Below w.heap.size w w') := hid (HB3.out.trans (hb'.mono HB3.out.size))
 have HO : Hid (Out w0 w' 123 1 (.slice aC n cC) n (ptrs Bs)) := hid (by have := (HM.out.later HB4.out).oC; rwa [HN.out] at this)
 have HB0 := hid HO.out.below
 have hs0 : w0.heap.size ≤ w.heap.size := HM.out.below.size
 have hbl := HBL.out
 have HOL : Hid (Out w0 w' 36 2 (.slice (some ⟨bl, 0, none⟩) lo lo) lo (vcells (args ++ List.replicate (lo - na) noV))) := hid (by
  have hl : (vcells (args ++ List.replicate (lo - na) noV)).length = lo * 2 := by rw [vcells, flat_len (cells := Vl.cells) (sz := 2) (fun _ => rfl), HLL.out.2]
  have hz : L1.size = lo * 2 := by rw [← Array.length_toList, HLL.out.1, hl]
  refine ⟨⟨hl, .inr ⟨bl, lo, L1, rfl, by omega, (hb'.block _ hbl.2).trans HRL3.out, Nat.le_refl _, by unfold maxLen; omega, hz, ?_⟩⟩, HB0.out⟩
  rw [HLL.out.1, ← hl, List.take_length])
 have HC4 : Hid (CL w0 w' bg ⟨cls, ⟨nm, ty, st, ab, pr, (lo : Int), vc, vh, code, hs⟩, 0, args ++ List.replicate (lo - na) noV, []⟩ (.slice (some ⟨bl, 0, none⟩) lo lo) (.slice none 0 0)) := hid (by
  have hlen := HLL.out.2
  refine ⟨hrg, ?_, ⟨World.ownsRow_nil _ _ _ _, HB0.out⟩, apart_nil _ _ _, by omega, fun e => ?_, (fun e => by cases e), ?_, Nat.zero_le _, Nat.zero_le _, HMA.out⟩
  ·show Out _ _ _ _ _ (args ++ List.replicate (lo - na) noV).length (vcells (args ++ List.replicate (lo - na) noV))
   rw [HLL.out.2]; exact HOL.out
  ·have h1 : bl = bg := Option.some.inj e
   omega
  ·show (args ++ List.replicate (lo - na) noV).length ≤ 1000000
   omega)
 have HNEWB : Hid (∀ q, own bg (.slice (some ⟨bl, 0, none⟩) lo lo) (.slice none 0 0) q → w.heap.size ≤ q) := hid (fun q hq => by
  rcases hq with rfl | e | e
  ·omega
  ·obtain rfl := Option.some.inj e; exact hbl.1
  ·cases e)
 clear hb' hF HX hrg
 simp only [List.drop_succ_cons, List.drop_zero, List.getElem_toArray, List.getElem_cons_zero, List.getElem_cons_succ]
 refine wpList_append_src_at w0 _ rfl _ _ 79 rfl 123 (.pointer none) 1 8 1 Tryz.underlying79 infoC rfl (by decide) _ _ _ HO.out rfl _ _ hsB rfl (by intro u hu; rw [List.mem_singleton.1 hu]; rfl) (by omega) (by omega) ?_
 intro v2 w5 ho2 hg2 hat2
 obtain ⟨a2, c2, hv2⟩ := ho2.sl.val
 subst hv2
 have hP := MM.push HM.out HB4.out hg2 (by rw [ptrs_cons, HN.out]; exact ho2) hat2 HC4.out HNEWB.out (by rw [HN.out]; omega)
 obtain ⟨hP1, y2, f2⟩ := hP
 have HOT : Hid (OthT w (w5.setCell ⟨M, 2, none⟩ (.slice a2 (n + 1) c2))) := hid ((OthT.of_below HB4.out).trans ((OthT.of_grown HO.out hg2).trans (OthT.of_row ((hg2.block M (HM.out.later HB4.out).lt fun e => HM.out.neC e.symm).trans (HM.out.later HB4.out).row) (Keeps.set w5 M 2 _))))
 have HP1 := hid hP1
 clear hP1 ho2 hg2 hat2 hsB hbl
 go_wp2_with fail
 go_end0
 exact ⟨rfl, HOT.out, _, _, HP1.out⟩
open Go.RowKit lib maps classes errs descs names grow keep ins nums flows hdls
def idxM (nm ty : ByteArray) (l : List MV) : Int := match l.findIdx? (fun m => decide (m.nm = nm ∧ m.ty = ty)) with
 | none => -1
 | some k => (k : Int)
theorem idx_found {nm ty : ByteArray} {l : List MV} {k : Nat} (hk : k < l.length) (h : l[k].nm = nm ∧ l[k].ty = ty) (hp : ∀ j (hj : j < l.length), j < k → ¬ (l[j].nm = nm ∧ l[j].ty = ty)) : idxM nm ty l = (k : Int) := by
 have : l.findIdx? (fun m => decide (m.nm = nm ∧ m.ty = ty)) = some k := List.findIdx?_eq_some_iff_getElem.2 ⟨hk, decide_eq_true h, fun j hj => by simpa using hp j (by omega) hj⟩
 unfold idxM
 rw [this]
theorem idx_next {nm ty : ByteArray} {l : List MV} {k : Nat} (hk : k < l.length) (h : ¬ (l[k].nm = nm ∧ l[k].ty = ty)) (hp : ∀ j (hj : j < l.length), j < k → ¬ (l[j].nm = nm ∧ l[j].ty = ty)) : ∀ j (hj : j < l.length), j < k + 1 → ¬ (l[j].nm = nm ∧ l[j].ty = ty) := fun j hj hjk => by
 by_cases e : j = k
 ·subst e; exact h
 ·exact hp j hj (by omega)
theorem idx_none {nm ty : ByteArray} {l : List MV} {k : Nat} (hk : l.length ≤ k) (hp : ∀ j (hj : j < l.length), j < k → ¬ (l[j].nm = nm ∧ l[j].ty = ty)) : idxM nm ty l = -1 := by
 have : l.findIdx? (fun m => decide (m.nm = nm ∧ m.ty = ty)) = none := List.findIdx?_eq_none_iff.2 fun x hx => by
  obtain ⟨j, hj, rfl⟩ := List.getElem_of_mem hx
  exact decide_eq_false (hp j hj (by omega))
 unfold idxM
 rw [this]
theorem rcall1_any (n2 t2 nm ty : ByteArray) (st ab pr : Bool) (lo : Int) (ac : Option Addr) (nc cc : Nat) (ah : Option Addr) (nh ch b d : Nat) (w : World) (hc0 : w.cell? ⟨b, 0, none⟩ = some (.string nm)) (hc1 : w.cell? ⟨d, 0, none⟩ = some (.string ty)) :
  Calls Tryz.prog 26 #[.agg #[.string n2, .string t2, .bool st, .bool ab, .bool pr, .int .i64 lo, .slice ac nc cc, .slice ah nh ch], .pointer (some ⟨b, 0, none⟩), .pointer (some ⟨d, 0, none⟩)] w fun e w' => e = .returned (.bool (decide (n2 = nm ∧ t2 = ty))) ∧ Below w.heap.size w w' := by
 have HB := hid (ext_alloc w (.cells #[.string n2, .string t2, .bool st, .bool ab, .bool pr, .int .i64 lo, .slice ac nc cc, .slice ah nh ch] 44))
 have k0 : (w.alloc (.cells #[.string n2, .string t2, .bool st, .bool ab, .bool pr, .int .i64 lo, .slice ac nc cc, .slice ah nh ch] 44)).cell? ⟨b, 0, none⟩ = some (.string nm) := by rw [HB.out.cell (World.block_lt_of_cell? _ _ hc0)]; exact hc0
 have k1 : (w.alloc (.cells #[.string n2, .string t2, .bool st, .bool ab, .bool pr, .int .i64 lo, .slice ac nc cc, .slice ah nh ch] 44)).cell? ⟨d, 0, none⟩ = some (.string ty) := by rw [HB.out.cell (World.block_lt_of_cell? _ _ hc1)]; exact hc1
 clear hc0 hc1
 by_cases h1 : n2 = nm
 ·by_cases h2 : t2 = ty
  ·have HZ : Hid (decide (n2 = nm ∧ t2 = ty) = true) := hid (decide_eq_true ⟨h1, h2⟩)
   have s1 := str_eqb h1
   have s2 := str_eqb h2
   clear h1 h2
   go_enter Tryz.func26, Tryz.ntmps26
   go_wp2_with fail
   go_ret
   rw [HZ.out]
   exact ⟨rfl, HB.out⟩
  ·have HZ : Hid (decide (n2 = nm ∧ t2 = ty) = false) := hid (decide_eq_false (fun h => h2 h.2))
   have s1 := str_eqb h1
   have s2 := str_neb h2
   clear h1 h2
   go_enter Tryz.func26, Tryz.ntmps26
   go_wp2_with fail
   go_ret
   rw [HZ.out]
   exact ⟨rfl, HB.out⟩
 ·have HZ : Hid (decide (n2 = nm ∧ t2 = ty) = false) := hid (decide_eq_false (fun h => h1 h.1))
  have s1 := str_neb h1
  clear h1
  go_enter Tryz.func26, Tryz.ntmps26
  go_wp2_with fail
  go_ret
  rw [HZ.out]
  exact ⟨rfl, HB.out⟩
theorem rindex_any (va : Value) (l : List MV) (nm ty : ByteArray) (b d : Nat) (w : World) (ha : Mets w va l) (hc0 : w.cell? ⟨b, 0, none⟩ = some (.string nm)) (hc1 : w.cell? ⟨d, 0, none⟩ = some (.string ty)) (hn : l.length ≤ 1000000000000) :
  Calls Tryz.prog 25 #[va, .func (.func 26) #[] #[.pointer (some ⟨b, 0, none⟩), .pointer (some ⟨d, 0, none⟩)]] w fun e w' => e = .returned (.int .i64 (idxM nm ty l)) ∧ Below w.heap.size w w' := by
 obtain ⟨a, c, rfl⟩ := ha.sl.val
 have HA := hid ha; have HC0 := hid hc0; have HC1 := hid hc1
 clear ha hc0 hc1
 go_enter Tryz.func25, Tryz.ntmps25
 go_wp2_with fail
 go_loopw [8] (fun i wr => ∃ k : Nat, k ≤ l.length ∧ i = .int .i64 k ∧ Hid (Below w.heap.size w wr) ∧ Hid (∀ j (hj : j < l.length), j < k → ¬ (l[j].nm = nm ∧ l[j].ty = ty))) (fun i _ => l.length - (intOf i).toNat)
 case atStart => exact ⟨0, Nat.zero_le _, rfl, hid (Below.refl _ _), hid (fun _ _ h => absurd h (Nat.not_lt_zero _))⟩
 case round =>
  obtain ⟨k, hk, rfl, HR, HP⟩ := hrel
  by_cases hlt : k < l.length
  ·obtain ⟨bb, off, hab, hd0, hd1, hd2, hd3, hd4, hd5, hd6, hd7⟩ := met_at (HA.out.below HR.out) hlt
   subst hab
   have hi : (0 : Int) ≤ (k : Int) := by omega
   have hkl : (k : Int) < (l.length : Int) := by omega
   have hat := HA.out.at_ _ (List.getElem_mem hlt)
   have HY := hid (fun h => idx_found (nm := nm) (ty := ty) hlt h HP.out)
   have HN := hid (fun h => idx_next (nm := nm) (ty := ty) hlt h HP.out)
   generalize l[k] = x at hd0 hd1 hd2 hd3 hd4 hd5 hd6 hd7 hat HY HN
   obtain ⟨n2, t2, st, ab, pr, lo, vc, vh, code, hs⟩ := x
   simp only at hd0 hd1 hd2 hd3 hd4 hd5 hd6 hd7 HY HN
   obtain ⟨ac, cc, hvc⟩ := hat.code.val
   obtain ⟨ah, ch, hvh⟩ := hat.hs.val
   simp only at hvc hvh
   subst hvc hvh
   have HT := hid (rcall1_any n2 t2 nm ty st ab pr lo ac code.length cc ah hs.length ch b d wr (by rw [HR.out.cell (World.block_lt_of_cell? _ _ HC0.out)]; exact HC0.out) (by rw [HR.out.cell (World.block_lt_of_cell? _ _ HC1.out)]; exact HC1.out))
   clear hat
   go_wp2_with fail
   refine HT.out.mono ?_
   rintro e w1 ⟨rfl, hb1⟩
   have HR1 := hid (HR.out.trans (hb1.mono HR.out.size))
   clear hb1
   by_cases h2 : n2 = nm ∧ t2 = ty
   ·have HT2 : Hid (idxM nm ty l = (k : Int)) := hid (HY.out h2)
    have e2 : decide (n2 = nm ∧ t2 = ty) = true := decide_eq_true h2
    rw [e2]
    clear h2 e2
    go_wp2_with fail
    go_ret
    exact ⟨by rw [HT2.out]; rfl, HR1.out⟩
   ·have HP2 := hid (HN.out h2)
    have e2 : decide (n2 = nm ∧ t2 = ty) = false := decide_eq_false h2
    rw [e2]
    clear h2 e2
    go_wp2_with fail
    go_roundw
    case rel => exact ⟨k + 1, by omega, by go_num, HR1, HP2⟩
    case measure => simp [intOf]; omega
  ·have HF : Hid (idxM nm ty l = -1) := hid (idx_none (by omega) HP.out)
   go_wp2_with fail
   go_ret
   exact ⟨by rw [HF.out]; rfl, HR.out⟩
end Go.Proofs.YtloonnfelgokmaaGreatDoor.worlds
