/- Lists of instructions that came in; the table of the kinds that a row lists. No condition. -/
import Derived.Test.YtloonnfelgokmaaGreatDoorZLaw
import Derived.Test.YtloonnfelgokmaaGreatDoorZFlowZ
import Derived.Test.YtloonnfelgokmaaGreatDoorZIns5
import Derived.OpenShut
import Derived.ProofKit
import Derived.Deep.Slices
import Derived.Deep.Fields
import Derived.Test.YtloonnfelgokmaaGreatDoorZCls1
import Derived.DataReads
import Derived.Test.YtloonnfelgokmaaGreatDoorZWld1
set_option maxRecDepth 100000
set_option maxHeartbeats 16000000
set_option linter.unusedSimpArgs false
set_option linter.unusedVariables false
namespace Go.Proofs.YtloonnfelgokmaaGreatDoor.law
open Go.ChangeShapes Go.WideShapes Go.ChangeAt Go.RowKit Go.Deep lib descs ins flows
section
variable {H : Type} {enc : TypeId × Value → H}
def insData (x : I) : DataW H := .agg [.lit (.int .i64 x.op), .lit (.int .i64 x.a), .lit (.int .i64 x.b), .lit (.string x.t.data.toList), .lit (.string x.c.data.toList), .lit (.string x.n.data.toList)]
def Held (x : I) : Prop := x.t.size ≤ maxLen ∧ x.c.size ≤ maxLen ∧ x.n.size ≤ maxLen
theorem c_int : Tryz.prog.cellsOf 3 = 1 := by kernel_rfl
theorem c_str : Tryz.prog.cellsOf 9 = 1 := by kernel_rfl
theorem cells_ins : Tryz.prog.cellsOf 56 = 6 := by kernel_rfl
theorem ins_cellsR {W : World} {spare : Nat → Bool} {held : Bool} {n : Nat} {cs : List Value} {y : DataW H × List MemPlace} (h : DataW.trod enc Tryz.prog W 0 spare held n 56 cs = some y) : ∃ x : I, cs = x.cells ∧ y.1 = insData x ∧ Held x ∧ (Lit.int .i64 x.a).wf = true ∧ (Lit.int .i64 x.b).wf = true := by
 obtain ⟨xs, m, _, hx, hlen, hxl, hf⟩ := DataW.trod_struct Tryz.underlying56 h
 have hl6 : cs.length = 6 := hlen.trans cells_ins
 match cs, hl6 with
 | [c0, c1, c2, c3, c4, c5], _ =>
  match xs, hxl with
  | [y0, y1, y2, y3, y4, y5], _ =>
   have h0 : DataW.trod enc Tryz.prog W 0 spare held m 3 (([c0, c1, c2, c3, c4, c5].drop 0).take (Tryz.prog.cellsOf 3)) = some y0 := hf 0 _ rfl
   rw [c_int] at h0
   have h1 : DataW.trod enc Tryz.prog W 0 spare held m 3 (([c0, c1, c2, c3, c4, c5].drop 1).take (Tryz.prog.cellsOf 3)) = some y1 := hf 1 _ rfl
   rw [c_int] at h1
   have h2 : DataW.trod enc Tryz.prog W 0 spare held m 3 (([c0, c1, c2, c3, c4, c5].drop 2).take (Tryz.prog.cellsOf 3)) = some y2 := hf 2 _ rfl
   rw [c_int] at h2
   have h3 : DataW.trod enc Tryz.prog W 0 spare held m 9 (([c0, c1, c2, c3, c4, c5].drop 3).take (Tryz.prog.cellsOf 9)) = some y3 := hf 3 _ rfl
   rw [c_str] at h3
   have h4 : DataW.trod enc Tryz.prog W 0 spare held m 9 (([c0, c1, c2, c3, c4, c5].drop 4).take (Tryz.prog.cellsOf 9)) = some y4 := hf 4 _ rfl
   rw [c_str] at h4
   have h5 : DataW.trod enc Tryz.prog W 0 spare held m 9 (([c0, c1, c2, c3, c4, c5].drop 5).take (Tryz.prog.cellsOf 9)) = some y5 := hf 5 _ rfl
   rw [c_str] at h5
   obtain ⟨z0, e0, f0, _⟩ := DataW.trod_int Tryz.underlying3 h0
   obtain ⟨z1, e1, f1, wf1⟩ := DataW.trod_int Tryz.underlying3 h1
   obtain ⟨z2, e2, f2, wf2⟩ := DataW.trod_int Tryz.underlying3 h2
   obtain ⟨z3, e3, f3, g3⟩ := DataW.trod_string Tryz.underlying9 h3
   obtain ⟨z4, e4, f4, g4⟩ := DataW.trod_string Tryz.underlying9 h4
   obtain ⟨z5, e5, f5, g5⟩ := DataW.trod_string Tryz.underlying9 h5
   simp at e0 e1 e2 e3 e4 e5
   subst e0 e1 e2 e3 e4 e5
   refine ⟨⟨z0, z1, z2, z3, z4, z5⟩, rfl, ?_, ⟨g3, g4, g5⟩, wf1, wf2⟩
   rw [hx, f0, f1, f2, f3, f4, f5]
   rfl
end
theorem laid_at {P : Program} {w : World} : ∀ {l : List (String × DataW Unit)} {ps : List MemPlace} {n : String} {d : DataW Unit}, DataW.LaidVars P w l ps → (n, d) ∈ l →
  ∃ g t cs fuel p, P.globalNamed n = some g ∧ (P.globals[g]?).map (·.type) = some t ∧ w.var? P n = some cs ∧ DataW.trod (fun _ => ()) P w 0 (fun _ => true) false fuel t cs.toList = some (d, p)
 | [], _, _, _, _, hm => by cases hm
 | (n', d') :: r, ps, n, d, h, hm => by
  obtain ⟨g, t, cs, fuel, p, q, h1, h2, h3, h4, h5, _⟩ := h
  rcases List.mem_cons.1 hm with e | e
  ·cases e
   exact ⟨g, t, cs, fuel, p, h1, h2, h3, h4⟩
  ·exact laid_at h5 e
theorem tab_data : (Rows.laid_coffeehouse_ins_forms : DataW Unit) = .agg (formTab.map fun p => .agg [.lit (.string p.1), .lit (.string p.2)]) := by kernel_rfl
theorem cells_form : Tryz.prog.cellsOf 180 = 2 := by kernel_rfl
theorem forms_of {W : World} {laid : List (String × DataW Unit)} (h : laidMet Tryz.prog laid W) (hm : ("coffeehouse/ins.forms", (Rows.laid_coffeehouse_ins_forms : DataW Unit)) ∈ laid) : FormsAt W := by
 obtain ⟨ps, hv, _⟩ := h
 obtain ⟨g, t, cs, fuel, p, hg, ht, hvar, hd⟩ := laid_at hv hm
 obtain rfl := Option.some.inj ((show Tryz.prog.globalNamed "coffeehouse/ins.forms" = some 0 by kernel_rfl).symm.trans hg)
 obtain rfl := Option.some.inj ((show (Tryz.prog.globals[0]?).map (·.type) = some 237 by kernel_rfl).symm.trans ht)
 rw [tab_data] at hd
 obtain ⟨xs, m, _, ex, _, hl, hel⟩ := DataW.trod_array Tryz.underlying237 hd
 have e3 : xs.map (·.1) = formTab.map fun p => (.agg [.lit (.string p.1), .lit (.string p.2)] : DataW Unit) := (DataW.agg.inj (Prod.mk.inj ex).1).symm
 intro k q hq
 have hk29 : k < 29 := (List.getElem?_eq_some_iff.1 hq).1
 have hE := hel k hk29
 rw [cells_form, List.getElem?_eq_getElem (by omega)] at hE
 have e4 : (xs.map (·.1))[k]? = (formTab.map fun p => (.agg [.lit (.string p.1), .lit (.string p.2)] : DataW Unit))[k]? := by rw [e3]
 rw [List.getElem?_map, List.getElem?_map, List.getElem?_eq_getElem (by omega : k < xs.length), hq] at e4
 simp only [Option.map_some, Option.some.injEq] at e4
 obtain ⟨ys, m2, _, hx, hlen, hyl, hf⟩ := DataW.trod_struct Tryz.underlying180 hE
 have hl2 : ((cs.toList.drop (k * 2)).take 2).length = 2 := hlen.trans cells_form
 generalize hgen : (cs.toList.drop (k * 2)).take 2 = two at hl2 hf hE
 match two, hl2 with
 | [c0, c1], _ =>
  match ys, hyl with
  | [y0, y1], _ =>
   have h0 : DataW.trod (fun _ => ()) Tryz.prog W 0 (fun _ => true) false m2 9 (([c0, c1].drop 0).take (Tryz.prog.cellsOf 9)) = some y0 := hf 0 _ rfl
   rw [c_str] at h0
   have h1 : DataW.trod (fun _ => ()) Tryz.prog W 0 (fun _ => true) false m2 9 (([c0, c1].drop 1).take (Tryz.prog.cellsOf 9)) = some y1 := hf 1 _ rfl
   rw [c_str] at h1
   obtain ⟨z0, e0, f0, _⟩ := DataW.trod_string Tryz.underlying9 h0
   obtain ⟨z1, e1, f1, _⟩ := DataW.trod_string Tryz.underlying9 h1
   simp at e0 e1
   subst e0 e1
   have hxx := (Prod.mk.inj hx).1
   rw [f0, f1] at hxx
   simp only [List.map_cons, List.map_nil] at hxx
   have hxx2 : (xs[k]'(by omega)).1 = .agg [.lit (.string z0.data.toList), .lit (.string z1.data.toList)] := by first | exact hxx | (rw [hx])
   rw [hxx2] at e4
   simp only [DataW.agg.injEq, List.cons.injEq, DataW.lit.injEq, Lit.string.injEq, and_true] at e4
   have hz0 : z0 = bs q.1 := bs_of e4.1
   have hz1 : z1 = bs q.2 := bs_of e4.2
   have c0 : cs.toList[k * 2]? = some (.string z0) := by
    have : ((cs.toList.drop (k * 2)).take 2)[0]? = some (.string z0) := by rw [hgen]; rfl
    simpa using this
   have c1 : cs.toList[k * 2 + 1]? = some (.string z1) := by
    have : ((cs.toList.drop (k * 2)).take 2)[1]? = some (.string z1) := by rw [hgen]; rfl
    simpa using this
   rw [World.var?_cell hg hvar, World.var?_cell hg hvar, ← hz0, ← hz1]
   exact ⟨by simpa using c0, by simpa using c1⟩
open Go.ChangeShapes Go.WideShapes Go.ChangeAt Go.RowKit Go.Deep lib
open classes (flat_len flat_get)
section
variable {H : Type} {enc : TypeId × Value → H} {P : Program} {T : Type} {cells : T → List Value} {sz : Nat}
theorem rows_read {data : T → DataW H} {Good : T → Prop} (hI : Inhabited T) (hsz : 0 < sz) (hlen : ∀ x, (cells x).length = sz) {W : World} {spare : Nat → Bool} {held : Bool} {t e : TypeId} (ht : P.underlying t = some (.slice e)) (hc : P.cellsOf e = sz)
  (hcell : ∀ {n : Nat} {cs : List Value} {y : DataW H × List MemPlace}, DataW.trod enc P W 0 spare held n e cs = some y → ∃ x : T, cs = cells x ∧ y.1 = data x ∧ Good x)
  {fuel : Nat} {v : Value} {y : DataW H × List MemPlace} (h : DataW.trod enc P W 0 spare held fuel t [v] = some y) :
  ∃ l : List T, Sl W v l.length sz (l.flatMap cells) ∧ (∀ x ∈ l, Good x) ∧ (y.1 = .nil ∧ l = [] ∨ ∃ sp, y.1 = .slice (l.map data) sp) := by
 rcases open_slice ht h with ⟨hcs, hx⟩ | ⟨a, len, cap, m, n, D, Pl, hcs, _, hl, hm, hmm, hx, hi⟩
 ·simp at hcs
  subst hcs
  subst hx
  exact ⟨[], ⟨by simp, _, _, rfl, Nat.le_refl _, .inl rfl⟩, by simp, .inl ⟨rfl, rfl⟩⟩
 ·simp at hcs
  subst hcs
  subst hx
  have hml : len ≤ m := by rw [hmm]; split <;> omega
  rw [hc] at hi
  have hx2 : ∀ i, i < m → ∃ x : T, (∀ r, r < sz → W.cell? ((a.add (i * sz)).add r) = (cells x)[r]?) ∧ D i = data x ∧ Good x := fun i him => by
   obtain ⟨cs', hc, ht⟩ := hi i him
   obtain ⟨_, _, hat⟩ := World.cells?_some hc
   obtain ⟨x, rfl, hd, hh⟩ := hcell ht
   exact ⟨x, hat, hd, hh⟩
  obtain ⟨X, hX⟩ := choose_lt hx2
  refine ⟨(List.range len).map X, ⟨by rw [flat_len hlen], _, _, by rw [List.length_map, List.length_range], by simpa using hl, ?_⟩, fun x hx => ?_, .inr ⟨(List.range (m - len)).map fun j => D (len + j), ?_⟩⟩
  ·by_cases h0 : len = 0
   ·exact .inl (by simp [h0])
   ·refine .inr ?_
    obtain ⟨b, off, sp⟩ := a
    have hsp : sp = none := by
     have hc0 := (hX 0 (by omega)).1 0 hsz
     rw [List.getElem?_eq_getElem (by rw [hlen]; exact hsz)] at hc0
     have := World.cell?_spot hc0
     simp only [Addr.add] at this
     simpa using this
    subst hsp
    refine ⟨b, off, rfl, fun j u hu => ?_⟩
    have hj : j < len * sz := by have := (List.getElem?_eq_some_iff.1 hu).1; rw [flat_len hlen, List.length_map, List.length_range] at this; exact this
    have hjl : j / sz < len := Nat.div_lt_of_lt_mul (by rw [Nat.mul_comm]; exact hj)
    have hjr : j % sz < sz := Nat.mod_lt _ hsz
    have hje : j / sz * sz + j % sz = j := by rw [Nat.mul_comm]; exact Nat.div_add_mod j sz
    have hg := flat_get hlen ((List.range len).map X) (j / sz) (j % sz) (by simpa using hjl) hjr
    rw [hje, hu] at hg
    have := (hX (j / sz) (by omega)).1 (j % sz) hjr
    rw [Addr.add_lit, Addr.add_lit, Nat.add_assoc, hje] at this
    rw [this]
    simpa using hg.symm
  ·obtain ⟨i, hi1, rfl⟩ := List.mem_map.1 hx
   exact (hX i (by have := List.mem_range.1 hi1; omega)).2.2
  ·have he : (List.range len).map D = ((List.range len).map X).map data := by
    rw [List.map_map]
    apply List.map_congr_left
    intro i hi1
    exact (hX i (by have := List.mem_range.1 hi1; omega)).2.1
   rw [← he]
end
open Go.ChangeShapes Go.WideShapes Go.ChangeAt Go.RowKit Go.Deep lib descs ins flows hdls classes
section
variable {H : Type} {enc : TypeId × Value → H}
theorem c_bool : Tryz.prog.cellsOf 4 = 1 := by kernel_rfl
theorem c_insS : Tryz.prog.cellsOf 41 = 1 := by kernel_rfl
theorem c_hdS : Tryz.prog.cellsOf 42 = 1 := by kernel_rfl
theorem cells_hd : Tryz.prog.cellsOf 94 = 4 := by kernel_rfl
theorem cells_met : Tryz.prog.cellsOf 44 = 8 := by kernel_rfl
def hdData (x : Hd) : DataW H := .agg [.lit (.int .i64 x.fr), .lit (.int .i64 x.til), .lit (.int .i64 x.at_), .lit (.string x.cls.data.toList)]
def HeldH (x : Hd) : Prop := x.cls.size ≤ maxLen
theorem hd_cells {W : World} {spare : Nat → Bool} {held : Bool} {n : Nat} {cs : List Value} {y : DataW H × List MemPlace} (h : DataW.trod enc Tryz.prog W 0 spare held n 94 cs = some y) : ∃ x : Hd, cs = x.cells ∧ y.1 = hdData x ∧ HeldH x := by
 obtain ⟨xs, m, _, hx, hlen, hxl, hf⟩ := DataW.trod_struct Tryz.underlying94 h
 have hl4 : cs.length = 4 := hlen.trans cells_hd
 match cs, hl4 with
 | [c0, c1, c2, c3], _ =>
  match xs, hxl with
  | [y0, y1, y2, y3], _ =>
   have h0 : DataW.trod enc Tryz.prog W 0 spare held m 3 (([c0, c1, c2, c3].drop 0).take (Tryz.prog.cellsOf 3)) = some y0 := hf 0 _ rfl
   rw [c_int] at h0
   have h1 : DataW.trod enc Tryz.prog W 0 spare held m 3 (([c0, c1, c2, c3].drop 1).take (Tryz.prog.cellsOf 3)) = some y1 := hf 1 _ rfl
   rw [c_int] at h1
   have h2 : DataW.trod enc Tryz.prog W 0 spare held m 3 (([c0, c1, c2, c3].drop 2).take (Tryz.prog.cellsOf 3)) = some y2 := hf 2 _ rfl
   rw [c_int] at h2
   have h3 : DataW.trod enc Tryz.prog W 0 spare held m 9 (([c0, c1, c2, c3].drop 3).take (Tryz.prog.cellsOf 9)) = some y3 := hf 3 _ rfl
   rw [c_str] at h3
   obtain ⟨z0, e0, f0, _⟩ := DataW.trod_int Tryz.underlying3 h0
   obtain ⟨z1, e1, f1, _⟩ := DataW.trod_int Tryz.underlying3 h1
   obtain ⟨z2, e2, f2, _⟩ := DataW.trod_int Tryz.underlying3 h2
   obtain ⟨z3, e3, f3, g3⟩ := DataW.trod_string Tryz.underlying9 h3
   simp at e0 e1 e2 e3
   subst e0 e1 e2 e3
   refine ⟨⟨z0, z1, z2, z3⟩, rfl, ?_, g3⟩
   rw [hx, f0, f1, f2, f3]
   rfl
structure HeldM (m : MV) : Prop where
 nm : m.nm.size ≤ maxLen
 ty : m.ty.size ≤ maxLen
 code : ∀ x ∈ m.code, Held x
 hs : ∀ x ∈ m.hs, HeldH x
 codeR : ∀ x ∈ m.code, (Lit.int .i64 x.a).wf = true ∧ (Lit.int .i64 x.b).wf = true
def SlData {T : Type} (data : T → DataW H) (l : List T) (d : DataW H) : Prop := d = .nil ∧ l = [] ∨ ∃ sp, d = .slice (l.map data) sp
def MData (m : MV) (d : DataW H) : Prop := ∃ dc dh, d = .agg [.lit (.string m.nm.data.toList), .lit (.string m.ty.data.toList), .lit (.bool m.st), .lit (.bool m.ab), .lit (.bool m.pr), .lit (.int .i64 m.lo), dc, dh] ∧ SlData insData m.code dc ∧ SlData hdData m.hs dh
theorem met_cells {W : World} {spare : Nat → Bool} {held : Bool} {n : Nat} {cs : List Value} {y : DataW H × List MemPlace} (h : DataW.trod enc Tryz.prog W 0 spare held n 44 cs = some y) :
  ∃ m : MV, cs = m.cells ∧ m.At W ∧ HeldM m ∧ MData m y.1 := by
 obtain ⟨xs, k, _, hx, hlen, hxl, hf⟩ := DataW.trod_struct Tryz.underlying44 h
 have hl8 : cs.length = 8 := hlen.trans cells_met
 match cs, hl8 with
 | [c0, c1, c2, c3, c4, c5, c6, c7], _ =>
  match xs, hxl with
  | [y0, y1, y2, y3, y4, y5, y6, y7], _ =>
   have h0 : DataW.trod enc Tryz.prog W 0 spare held k 9 (([c0, c1, c2, c3, c4, c5, c6, c7].drop 0).take (Tryz.prog.cellsOf 9)) = some y0 := hf 0 _ rfl
   rw [c_str] at h0
   have h1 : DataW.trod enc Tryz.prog W 0 spare held k 9 (([c0, c1, c2, c3, c4, c5, c6, c7].drop 1).take (Tryz.prog.cellsOf 9)) = some y1 := hf 1 _ rfl
   rw [c_str] at h1
   have h2 : DataW.trod enc Tryz.prog W 0 spare held k 4 (([c0, c1, c2, c3, c4, c5, c6, c7].drop 2).take (Tryz.prog.cellsOf 4)) = some y2 := hf 2 _ rfl
   rw [c_bool] at h2
   have h3 : DataW.trod enc Tryz.prog W 0 spare held k 4 (([c0, c1, c2, c3, c4, c5, c6, c7].drop 3).take (Tryz.prog.cellsOf 4)) = some y3 := hf 3 _ rfl
   rw [c_bool] at h3
   have h4 : DataW.trod enc Tryz.prog W 0 spare held k 4 (([c0, c1, c2, c3, c4, c5, c6, c7].drop 4).take (Tryz.prog.cellsOf 4)) = some y4 := hf 4 _ rfl
   rw [c_bool] at h4
   have h5 : DataW.trod enc Tryz.prog W 0 spare held k 3 (([c0, c1, c2, c3, c4, c5, c6, c7].drop 5).take (Tryz.prog.cellsOf 3)) = some y5 := hf 5 _ rfl
   rw [c_int] at h5
   have h6 : DataW.trod enc Tryz.prog W 0 spare held k 41 (([c0, c1, c2, c3, c4, c5, c6, c7].drop 6).take (Tryz.prog.cellsOf 41)) = some y6 := hf 6 _ rfl
   rw [c_insS] at h6
   have h7 : DataW.trod enc Tryz.prog W 0 spare held k 42 (([c0, c1, c2, c3, c4, c5, c6, c7].drop 7).take (Tryz.prog.cellsOf 42)) = some y7 := hf 7 _ rfl
   rw [c_hdS] at h7
   obtain ⟨z0, e0, f0, g0⟩ := DataW.trod_string Tryz.underlying9 h0
   obtain ⟨z1, e1, f1, g1⟩ := DataW.trod_string Tryz.underlying9 h1
   obtain ⟨z2, e2, f2⟩ := DataW.trod_bool Tryz.underlying4 h2
   obtain ⟨z3, e3, f3⟩ := DataW.trod_bool Tryz.underlying4 h3
   obtain ⟨z4, e4, f4⟩ := DataW.trod_bool Tryz.underlying4 h4
   obtain ⟨z5, e5, f5, _⟩ := DataW.trod_int Tryz.underlying3 h5
   obtain ⟨l6, s6, g6, d6⟩ := rows_read (data := insData) (Good := fun x => Held x ∧ (Lit.int .i64 x.a).wf = true ∧ (Lit.int .i64 x.b).wf = true) (cells := I.cells) ⟨⟨0, 0, 0, .empty, .empty, .empty⟩⟩ (by decide) (fun _ => rfl) Tryz.underlying41 cells_ins ins_cellsR (v := c6) h6
   obtain ⟨l7, s7, g7, d7⟩ := rows_read (data := hdData) (Good := HeldH) (cells := Hd.cells) ⟨⟨0, 0, 0, .empty⟩⟩ (by decide) (fun _ => rfl) Tryz.underlying42 cells_hd hd_cells (v := c7) h7
   simp at e0 e1 e2 e3 e4 e5
   subst e0 e1 e2 e3 e4 e5
   refine ⟨⟨z0, z1, z2, z3, z4, z5, c6, c7, l6, l7⟩, rfl, ⟨s6, s7⟩, ⟨g0, g1, fun x hx => (g6 x hx).1, g7, fun x hx => (g6 x hx).2⟩, y6.1, y7.1, ?_, d6, d7⟩
   rw [hx, f0, f1, f2, f3, f4, f5]
   rfl
end
theorem sl_le {H T : Type} {data : T → DataW H} {l : List T} {d : DataW H} (h : SlData data l d) : l.length ≤ Rows.uptoBulk d ∧ ∀ x ∈ l, Rows.uptoBulk (data x) ≤ Rows.uptoBulk d := by
 rcases h with ⟨_, rfl⟩ | ⟨sp, rfl⟩
 ·simp
 ·have h1 := length_le (H := H) (l.map data)
  rw [List.length_map] at h1
  refine ⟨by simp only [Rows.uptoBulk]; omega, fun x hx => ?_⟩
  have h2 := part_le (H := H) (d := data x) (l := l.map data) (List.mem_map_of_mem hx)
  simp only [Rows.uptoBulk] at h2 ⊢
  omega
theorem ins_bulk {H : Type} (x : I) : x.t.size ≤ Rows.uptoBulk (H := H) (insData x) ∧ x.c.size ≤ Rows.uptoBulk (H := H) (insData x) ∧ x.n.size ≤ Rows.uptoBulk (H := H) (insData x) := by
 have h4 := str_le (H := H) x.t
 have h5 := str_le (H := H) x.c
 have h6 := str_le (H := H) x.n
 simp only [insData, Rows.uptoBulk, Rows.uptoBulkAll] at h4 h5 h6 ⊢
 omega
theorem hd_bulk {H : Type} (x : Hd) : x.cls.size ≤ Rows.uptoBulk (H := H) (hdData x) := by
 have h4 := str_le (H := H) x.cls
 simp only [hdData, Rows.uptoBulk, Rows.uptoBulkAll] at h4 ⊢
 omega
theorem met_le {H : Type} {m : MV} {d : DataW H} (h : MData m d) (hb : Rows.uptoBulk d ≤ 1048576) : SmallM m := by
 obtain ⟨dc, dh, rfl, hc, hh⟩ := h
 have h0 := str_le (H := H) m.nm
 have h1 := str_le (H := H) m.ty
 obtain ⟨c1, c2⟩ := sl_le hc
 obtain ⟨k1, k2⟩ := sl_le hh
 simp only [Rows.uptoBulk, Rows.uptoBulkAll] at hb h0 h1
 refine ⟨by omega, by omega, by omega, fun x hx => ?_, by omega, fun x hx => ?_⟩
 ·have := c2 x hx
  have := ins_bulk (H := H) x
  exact ⟨by omega, by omega, by omega⟩
 ·have := k2 x hx
  have := hd_bulk (H := H) x
  omega
section
variable {H : Type} {enc : TypeId × Value → H}
theorem c_strS : Tryz.prog.cellsOf 24 = 1 := by kernel_rfl
theorem c_fdS : Tryz.prog.cellsOf 25 = 1 := by kernel_rfl
theorem c_metS : Tryz.prog.cellsOf 26 = 1 := by kernel_rfl
theorem cells_fd : Tryz.prog.cellsOf 153 = 2 := by kernel_rfl
theorem cells_cls : Tryz.prog.cellsOf 28 = 6 := by kernel_rfl
def strData (x : ByteArray) : DataW H := .lit (.string x.data.toList)
def fdData (x : classes.Fd) : DataW H := .agg [.lit (.string x.nm.data.toList), .lit (.string x.ty.data.toList)]
theorem str_cells {W : World} {spare : Nat → Bool} {held : Bool} {n : Nat} {cs : List Value} {y : DataW H × List MemPlace} (h : DataW.trod enc Tryz.prog W 0 spare held n 9 cs = some y) : ∃ x : ByteArray, cs = [.string x] ∧ y.1 = strData x ∧ x.size ≤ maxLen := by
 obtain ⟨z0, e0, f0, g0⟩ := DataW.trod_string Tryz.underlying9 h
 exact ⟨z0, e0, by rw [f0]; rfl, g0⟩
theorem fd_cells {W : World} {spare : Nat → Bool} {held : Bool} {n : Nat} {cs : List Value} {y : DataW H × List MemPlace} (h : DataW.trod enc Tryz.prog W 0 spare held n 153 cs = some y) : ∃ x : classes.Fd, cs = x.cells ∧ y.1 = fdData x ∧ (x.nm.size ≤ maxLen ∧ x.ty.size ≤ maxLen) := by
 obtain ⟨xs, m, _, hx, hlen, hxl, hf⟩ := DataW.trod_struct Tryz.underlying153 h
 have hl2 : cs.length = 2 := hlen.trans cells_fd
 match cs, hl2 with
 | [c0, c1], _ =>
  match xs, hxl with
  | [y0, y1], _ =>
   have h0 : DataW.trod enc Tryz.prog W 0 spare held m 9 (([c0, c1].drop 0).take (Tryz.prog.cellsOf 9)) = some y0 := hf 0 _ rfl
   rw [c_str] at h0
   have h1 : DataW.trod enc Tryz.prog W 0 spare held m 9 (([c0, c1].drop 1).take (Tryz.prog.cellsOf 9)) = some y1 := hf 1 _ rfl
   rw [c_str] at h1
   obtain ⟨z0, e0, f0, g0⟩ := DataW.trod_string Tryz.underlying9 h0
   obtain ⟨z1, e1, f1, g1⟩ := DataW.trod_string Tryz.underlying9 h1
   simp at e0 e1
   subst e0 e1
   refine ⟨⟨z0, z1⟩, rfl, ?_, g0, g1⟩
   rw [hx, f0, f1]
   rfl
theorem flat_one : ∀ (l : List ByteArray), (l.flatMap fun x => [Value.string x]) = l.map .string
 | [] => rfl
 | x :: l => by rw [List.flatMap_cons, flat_one l]; rfl
def MsData (l : List MV) (d : DataW H) : Prop := ∃ q : List (MV × DataW H), l = q.map (·.1) ∧ SlData (fun p => p.2) q d ∧ ∀ p ∈ q, MData p.1 p.2
structure HeldC (c : CV) : Prop where
 nm : c.nm.size ≤ maxLen
 sup : c.sup.size ≤ maxLen
 faces : ∀ x ∈ c.faces, x.size ≤ maxLen
 fields : ∀ x ∈ c.fields, x.nm.size ≤ maxLen ∧ x.ty.size ≤ maxLen
 mets : ∀ x ∈ c.mets, HeldM x
def CData (c : CV) (d : DataW H) : Prop := ∃ df dd dm, d = .agg [.lit (.string c.nm.data.toList), .lit (.string c.sup.data.toList), df, .lit (.bool c.face), dd, dm] ∧ SlData strData c.faces df ∧ SlData fdData c.fields dd ∧ MsData c.mets dm
theorem mets_read {W : World} {spare : Nat → Bool} {held : Bool} {n : Nat} {v : Value} {y : DataW H × List MemPlace} (h : DataW.trod enc Tryz.prog W 0 spare held n 26 [v] = some y) :
  ∃ l : List MV, Mets W v l ∧ (∀ x ∈ l, HeldM x) ∧ MsData l y.1 := by
 obtain ⟨q, s, g, d⟩ := rows_read (T := MV × DataW H) (data := fun p => p.2) (Good := fun p => HeldM p.1 ∧ MData p.1 p.2 ∧ p.1.At W) (cells := fun p => p.1.cells) ⟨(⟨.empty, .empty, false, false, false, 0, .nilIface, .nilIface, [], []⟩, .nil)⟩ (by decide) (fun _ => rfl) Tryz.underlying26 cells_met
  (fun {n cs y} h => by
   obtain ⟨m, h1, h2, h3, h4⟩ := met_cells h
   exact ⟨(m, y.1), h1, rfl, h3, h4, h2⟩) h
 refine ⟨q.map (·.1), ⟨?_, fun m hm => ?_⟩, fun m hm => ?_, q, rfl, d, fun p hp => (g p hp).2.1⟩
 ·rw [List.length_map, List.flatMap_map]; exact s
 ·obtain ⟨p, hp, rfl⟩ := List.mem_map.1 hm
  exact (g p hp).2.2
 ·obtain ⟨p, hp, rfl⟩ := List.mem_map.1 hm
  exact (g p hp).1
theorem cls_cells {W : World} {spare : Nat → Bool} {held : Bool} {n : Nat} {cs : List Value} {y : DataW H × List MemPlace} (h : DataW.trod enc Tryz.prog W 0 spare held n 28 cs = some y) :
  ∃ c : CV, cs = c.cells ∧ c.At W ∧ HeldC c ∧ CData c y.1 := by
 obtain ⟨xs, k, _, hx, hlen, hxl, hf⟩ := DataW.trod_struct Tryz.underlying28 h
 have hl6 : cs.length = 6 := hlen.trans cells_cls
 match cs, hl6 with
 | [c0, c1, c2, c3, c4, c5], _ =>
  match xs, hxl with
  | [y0, y1, y2, y3, y4, y5], _ =>
   have h0 : DataW.trod enc Tryz.prog W 0 spare held k 9 (([c0, c1, c2, c3, c4, c5].drop 0).take (Tryz.prog.cellsOf 9)) = some y0 := hf 0 _ rfl
   rw [c_str] at h0
   have h1 : DataW.trod enc Tryz.prog W 0 spare held k 9 (([c0, c1, c2, c3, c4, c5].drop 1).take (Tryz.prog.cellsOf 9)) = some y1 := hf 1 _ rfl
   rw [c_str] at h1
   have h2 : DataW.trod enc Tryz.prog W 0 spare held k 24 (([c0, c1, c2, c3, c4, c5].drop 2).take (Tryz.prog.cellsOf 24)) = some y2 := hf 2 _ rfl
   rw [c_strS] at h2
   have h3 : DataW.trod enc Tryz.prog W 0 spare held k 4 (([c0, c1, c2, c3, c4, c5].drop 3).take (Tryz.prog.cellsOf 4)) = some y3 := hf 3 _ rfl
   rw [c_bool] at h3
   have h4 : DataW.trod enc Tryz.prog W 0 spare held k 25 (([c0, c1, c2, c3, c4, c5].drop 4).take (Tryz.prog.cellsOf 25)) = some y4 := hf 4 _ rfl
   rw [c_fdS] at h4
   have h5 : DataW.trod enc Tryz.prog W 0 spare held k 26 (([c0, c1, c2, c3, c4, c5].drop 5).take (Tryz.prog.cellsOf 26)) = some y5 := hf 5 _ rfl
   rw [c_metS] at h5
   obtain ⟨z0, e0, f0, g0⟩ := DataW.trod_string Tryz.underlying9 h0
   obtain ⟨z1, e1, f1, g1⟩ := DataW.trod_string Tryz.underlying9 h1
   obtain ⟨z3, e3, f3⟩ := DataW.trod_bool Tryz.underlying4 h3
   obtain ⟨l2, s2, g2, d2⟩ := rows_read (data := strData) (Good := fun x => x.size ≤ maxLen) (cells := fun x : ByteArray => [Value.string x]) ⟨.empty⟩ (by decide) (fun _ => rfl) Tryz.underlying24 c_str str_cells (v := c2) h2
   obtain ⟨l4, s4, g4, d4⟩ := rows_read (data := fdData) (Good := fun x => x.nm.size ≤ maxLen ∧ x.ty.size ≤ maxLen) (cells := classes.Fd.cells) ⟨⟨.empty, .empty⟩⟩ (by decide) (fun _ => rfl) Tryz.underlying25 cells_fd fd_cells (v := c4) h4
   obtain ⟨l5, s5, g5, d5⟩ := mets_read (v := c5) h5
   simp at e0 e1 e3
   subst e0 e1 e3
   refine ⟨⟨z0, z1, c2, z3, c4, c5, l2, l4, l5⟩, rfl, ⟨?_, s4, s5⟩, ⟨g0, g1, g2, g4, g5⟩, y2.1, y4.1, y5.1, ?_, d2, d4, d5⟩
   ·rw [flat_one] at s2; exact s2
   ·rw [hx, f0, f1, f3]
    rfl
end
theorem cls_le {H : Type} {c : CV} {d : DataW H} (h : CData c d) (hb : Rows.uptoBulk d ≤ 1048576) : SmallC c := by
 obtain ⟨df, dd, dm, rfl, hf, hd, q, hq, hm, hg⟩ := h
 have h0 := str_le (H := H) c.nm
 have h1 := str_le (H := H) c.sup
 obtain ⟨f1, f2⟩ := sl_le hf
 obtain ⟨d1, d2⟩ := sl_le hd
 obtain ⟨m1, m2⟩ := sl_le hm
 simp only [Rows.uptoBulk, Rows.uptoBulkAll] at hb h0 h1
 refine ⟨by omega, by omega, by omega, fun x hx => ?_, by omega, fun x hx => ?_, by rw [hq, List.length_map]; omega, fun x hx => ?_⟩
 ·have a := f2 x hx
  have b := str_le (H := H) x
  simp only [strData, Rows.uptoBulk] at a b
  omega
 ·have a := d2 x hx
  have b := str_le (H := H) x.nm
  have c := str_le (H := H) x.ty
  simp only [fdData, Rows.uptoBulk, Rows.uptoBulkAll] at a b c
  omega
 ·rw [hq] at hx
  obtain ⟨p, hp, rfl⟩ := List.mem_map.1 hx
  exact met_le (hg p hp) (by have := m2 p hp; omega)
end Go.Proofs.YtloonnfelgokmaaGreatDoor.law
namespace Go.Proofs.YtloonnfelgokmaaGreatDoor.worlds
open Go.RowKit lib classes
structure Clss (w : World) (v : Value) (l : List CV) : Prop where
 sl : Sl w v l.length 6 (l.flatMap CV.cells)
 at_ : ∀ c ∈ l, c.At w
theorem Clss.below {w w' : World} {v : Value} {l : List CV} (h : Clss w v l) (hb : Below w.heap.size w w') : Clss w' v l := ⟨h.sl.below hb, fun m hm => (h.at_ m hm).below hb⟩
end Go.Proofs.YtloonnfelgokmaaGreatDoor.worlds
namespace Go.Proofs.YtloonnfelgokmaaGreatDoor.law
open Go.ChangeShapes Go.WideShapes Go.ChangeAt Go.RowKit Go.Deep lib descs ins flows hdls classes worlds
section
variable {H : Type} {enc : TypeId × Value → H}
def CsData (l : List CV) (d : DataW H) : Prop := ∃ q : List (CV × DataW H), l = q.map (·.1) ∧ SlData (fun p => p.2) q d ∧ ∀ p ∈ q, CData p.1 p.2
theorem clss_read {W : World} {spare : Nat → Bool} {held : Bool} {n : Nat} {v : Value} {y : DataW H × List MemPlace} (h : DataW.trod enc Tryz.prog W 0 spare held n 22 [v] = some y) :
  ∃ l : List CV, Clss W v l ∧ (∀ x ∈ l, HeldC x) ∧ CsData l y.1 := by
 obtain ⟨q, s, g, d⟩ := rows_read (T := CV × DataW H) (data := fun p => p.2) (Good := fun p => HeldC p.1 ∧ CData p.1 p.2 ∧ p.1.At W) (cells := fun p => p.1.cells) ⟨(zeroC, .nil)⟩ (by decide) (fun _ => rfl) Tryz.underlying22 cells_cls
  (fun {n cs y} h => by
   obtain ⟨m, h1, h2, h3, h4⟩ := cls_cells h
   exact ⟨(m, y.1), h1, rfl, h3, h4, h2⟩) h
 refine ⟨q.map (·.1), ⟨?_, fun m hm => ?_⟩, fun m hm => ?_, q, rfl, d, fun p hp => (g p hp).2.1⟩
 ·rw [List.length_map, List.flatMap_map]; exact s
 ·obtain ⟨p, hp, rfl⟩ := List.mem_map.1 hm
  exact (g p hp).2.2
 ·obtain ⟨p, hp, rfl⟩ := List.mem_map.1 hm
  exact (g p hp).1
theorem slice_fuel {t e : TypeId} {W : World} {base : Nat} {spare : Nat → Bool} {v : Value} {d : DataW H} {ps : List MemPlace} (ht : Tryz.prog.underlying t = some (.slice e))
  (hok : Value.okWide Tryz.prog W .any base t v) (h : DataW.Trod enc Tryz.prog W 0 spare true t v d ps) : ∃ fuel, DataW.trod enc Tryz.prog W 0 spare true fuel t [v] = some (d, ps) := by
 obtain ⟨a0, len, cap, rfl⟩ := okWide_slice ht hok
 obtain ⟨fuel, hf⟩ := h
 exact ⟨fuel, by simpa [Value.cells] using hf⟩
theorem arg_clss {W : World} {base : Nat} {spare : Nat → Bool} {v : Value} {d : DataW H} {ps : List MemPlace}
  (hok : Value.okWide Tryz.prog W .any base 22 v) (h : DataW.Trod enc Tryz.prog W 0 spare true 22 v d ps) :
  ∃ l : List CV, Clss W v l ∧ (∀ x ∈ l, HeldC x) ∧ CsData l d := by
 obtain ⟨fuel, hf⟩ := slice_fuel Tryz.underlying22 hok h
 exact clss_read hf
end
theorem clss_le {H : Type} {l : List CV} {d : DataW H} (h : CsData l d) (hb : Rows.uptoBulk d ≤ 1048576) : l.length ≤ 1048576 ∧ ∀ c ∈ l, SmallC c := by
 obtain ⟨q, rfl, hs, hd⟩ := h
 obtain ⟨m1, m2⟩ := sl_le hs
 refine ⟨by rw [List.length_map]; omega, fun c hc => ?_⟩
 obtain ⟨p, hp, rfl⟩ := List.mem_map.1 hc
 exact cls_le (hd p hp) (by have := m2 p hp; omega)
end Go.Proofs.YtloonnfelgokmaaGreatDoor.law
