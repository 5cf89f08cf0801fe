/- Lists of instructions that came in; the table of the kinds that a row lists. No condition. -/
import Derived.Test.YtloeaihbnnnncaaGreatDoorLaw
import Derived.Test.YtloeaihbnnnncaaGreatDoorFlowP
import Derived.Test.YtloeaihbnnnncaaGreatDoorIns5
import Derived.OpenShut
import Derived.ProofKit
import Derived.Deep.Slices
import Derived.Deep.Fields
namespace Go.Proofs.YtloeaihbnnnncaaGreatDoor.law
open Go.ChangeShapes Go.WideShapes Go.ChangeAt Go.RowKit Go.Deep Go.Proofs.YtloeaihbnnnncaaGreatDoor.lib Go.Proofs.YtloeaihbnnnncaaGreatDoor.descs Go.Proofs.YtloeaihbnnnncaaGreatDoor.ins Go.Proofs.YtloeaihbnnnncaaGreatDoor.flows

section
variable {H : Type} {enc : TypeId × Value → H}
/-- an instruction as a datum -/
def insData (x : I) : DataW H := .agg [.lit (.int .i64 x.op), .lit (.int .i64 x.a), .lit (.int .i64 x.b), .lit (.string x.t.data.toList), .lit (.string x.c.data.toList), .lit (.string x.n.data.toList)]
/-- its texts can be held -/
def Held (x : I) : Prop := x.t.size ≤ maxLen ∧ x.c.size ≤ maxLen ∧ x.n.size ≤ maxLen

theorem c_int : Tryz.prog.cellsOf 3 = 1 := by kernel_rfl
theorem c_str : Tryz.prog.cellsOf 9 = 1 := by kernel_rfl
theorem cells_ins : Tryz.prog.cellsOf 61 = 6 := by kernel_rfl

set_option maxRecDepth 100000 in
theorem ins_cellsR {W : World} {spare : Nat → Bool} {held : Bool} {n : Nat} {cs : List Value} {y : DataW H × List MemPlace} (h : DataW.trod enc Tryz.prog W 0 spare held n 61 cs = some y) : ∃ x : I, cs = x.cells ∧ y.1 = insData x ∧ Held x ∧ (Lit.int .i64 x.a).wf = true ∧ (Lit.int .i64 x.b).wf = true := by
  obtain ⟨xs, m, _, hx, hlen, hxl, hf⟩ := DataW.trod_struct Tryz.underlying61 h
  have hl6 : cs.length = 6 := hlen.trans cells_ins
  match cs, hl6 with
  | [c0, c1, c2, c3, c4, c5], _ =>
    match xs, hxl with
    | [y0, y1, y2, y3, y4, y5], _ =>
      have h0 : DataW.trod enc Tryz.prog W 0 spare held m 3 (([c0, c1, c2, c3, c4, c5].drop 0).take (Tryz.prog.cellsOf 3)) = some y0 := hf 0 _ rfl
      rw [c_int] at h0
      have h1 : DataW.trod enc Tryz.prog W 0 spare held m 3 (([c0, c1, c2, c3, c4, c5].drop 1).take (Tryz.prog.cellsOf 3)) = some y1 := hf 1 _ rfl
      rw [c_int] at h1
      have h2 : DataW.trod enc Tryz.prog W 0 spare held m 3 (([c0, c1, c2, c3, c4, c5].drop 2).take (Tryz.prog.cellsOf 3)) = some y2 := hf 2 _ rfl
      rw [c_int] at h2
      have h3 : DataW.trod enc Tryz.prog W 0 spare held m 9 (([c0, c1, c2, c3, c4, c5].drop 3).take (Tryz.prog.cellsOf 9)) = some y3 := hf 3 _ rfl
      rw [c_str] at h3
      have h4 : DataW.trod enc Tryz.prog W 0 spare held m 9 (([c0, c1, c2, c3, c4, c5].drop 4).take (Tryz.prog.cellsOf 9)) = some y4 := hf 4 _ rfl
      rw [c_str] at h4
      have h5 : DataW.trod enc Tryz.prog W 0 spare held m 9 (([c0, c1, c2, c3, c4, c5].drop 5).take (Tryz.prog.cellsOf 9)) = some y5 := hf 5 _ rfl
      rw [c_str] at h5
      obtain ⟨z0, e0, f0, _⟩ := DataW.trod_int Tryz.underlying3 h0
      obtain ⟨z1, e1, f1, wf1⟩ := DataW.trod_int Tryz.underlying3 h1
      obtain ⟨z2, e2, f2, wf2⟩ := DataW.trod_int Tryz.underlying3 h2
      obtain ⟨z3, e3, f3, g3⟩ := DataW.trod_string Tryz.underlying9 h3
      obtain ⟨z4, e4, f4, g4⟩ := DataW.trod_string Tryz.underlying9 h4
      obtain ⟨z5, e5, f5, g5⟩ := DataW.trod_string Tryz.underlying9 h5
      simp at e0 e1 e2 e3 e4 e5
      subst e0 e1 e2 e3 e4 e5
      refine ⟨⟨z0, z1, z2, z3, z4, z5⟩, rfl, ?_, ⟨g3, g4, g5⟩, wf1, wf2⟩
      rw [hx, f0, f1, f2, f3, f4, f5]
      rfl

theorem ins_cells {W : World} {spare : Nat → Bool} {held : Bool} {n : Nat} {cs : List Value} {y : DataW H × List MemPlace} (h : DataW.trod enc Tryz.prog W 0 spare held n 61 cs = some y) : ∃ x : I, cs = x.cells ∧ y.1 = insData x ∧ Held x := by
  obtain ⟨x, h1, h2, h3, _⟩ := ins_cellsR h
  exact ⟨x, h1, h2, h3⟩

theorem flat_at {k : Nat} : ∀ (l : List I) (j : Nat) (u : Value), (cellsOf l)[j]? = some u → k = l.length → ∃ i, i < k ∧ ∃ r, r < 6 ∧ j = i * 6 + r ∧ ∃ hi : i < l.length, l[i].cells[r]? = some u := by
  intro l j u hu hk
  have hj : j < l.length * 6 := by have := (List.getElem?_eq_some_iff.1 hu).1; rwa [cells_len] at this
  have hi : j / 6 < l.length := by omega
  refine ⟨j / 6, by omega, j % 6, by omega, by omega, hi, ?_⟩
  rw [← cells_at l (j / 6) (j % 6) hi (by omega), show j / 6 * 6 + j % 6 = j by omega]
  exact hu

set_option maxRecDepth 100000 in
/-- a slice of instructions that came in -/
theorem arg_insR {W : World} {base : Nat} {spare : Nat → Bool} {v : Value} {d : DataW H} {ps : List MemPlace}
    (hok : Value.okWide Tryz.prog W .any base 41 v) (h : DataW.Trod enc Tryz.prog W 0 spare true 41 v d ps) :
    ∃ l : List I, Go.Proofs.YtloeaihbnnnncaaGreatDoor.flows.Code W v l ∧ (∀ x ∈ l, Held x ∧ (Lit.int .i64 x.a).wf = true ∧ (Lit.int .i64 x.b).wf = true) ∧ (d = .nil ∧ l = [] ∨ ∃ sp, d = .slice (l.map insData) sp) := by
  obtain ⟨a0, len, cap, rfl⟩ := okWide_slice Tryz.underlying41 hok
  obtain ⟨fuel, hf⟩ := h
  rcases open_slice Tryz.underlying41 hf with ⟨hcs, hx⟩ | ⟨a, len', cap', m, n, D, Pl, hcs, _, hl, hm, hmm, hx, hi⟩
  · simp [Value.cells] at hcs
    obtain ⟨rfl, rfl, rfl⟩ := hcs
    simp only [Prod.mk.injEq] at hx
    exact ⟨[], ⟨by simp, _, _, rfl, Nat.le_refl _, .inl rfl⟩, by simp, .inl ⟨hx.1, rfl⟩⟩
  · simp [Value.cells] at hcs
    obtain ⟨rfl, rfl, rfl⟩ := hcs
    simp only [Prod.mk.injEq] at hx
    have hml : len ≤ m := by rw [hmm]; split <;> omega
    rw [cells_ins] at hi
    have hx2 : ∀ i, i < m → ∃ x : I, (∀ r, r < 6 → W.cell? ((a.add (i * 6)).add r) = x.cells[r]?) ∧ D i = insData x ∧ Held x ∧ (Lit.int .i64 x.a).wf = true ∧ (Lit.int .i64 x.b).wf = true := fun i him => by
      obtain ⟨cs', hc, ht⟩ := hi i him
      obtain ⟨_, _, hat⟩ := World.cells?_some hc
      obtain ⟨x, rfl, hd, hh⟩ := ins_cellsR ht
      exact ⟨x, hat, hd, hh⟩
    have hinh : Inhabited I := ⟨⟨0, 0, 0, .empty, .empty, .empty⟩⟩
    obtain ⟨X, hX⟩ := choose_lt hx2
    obtain ⟨sp0, hsp0⟩ : ∃ sp, d = .slice ((List.range len).map D) sp := ⟨_, hx.1⟩
    refine ⟨(List.range len).map X, ⟨by rw [cells_len], _, _, by rw [List.length_map, List.length_range], by simpa using hl, ?_⟩, fun x hx => ?_, .inr ⟨sp0, ?_⟩⟩
    · by_cases h0 : len = 0
      · exact .inl (by simp [h0])
      · refine .inr ?_
        obtain ⟨b, off, sp⟩ := a
        have hsp : sp = none := by
          have hc0 := (hX 0 (by omega)).1 0 (by decide)
          cases sp with
          | none => rfl
          | some s =>
            exfalso
            have : (X 0).cells[0]? = some (.int .i64 (X 0).op) := rfl
            rw [this] at hc0
            simp [World.cell?, Addr.add] at hc0
            split at hc0 <;> simp_all
        subst hsp
        refine ⟨b, off, rfl, fun j u hu => ?_⟩
        obtain ⟨i, hi1, r, hr, rfl, hi2, hu2⟩ := flat_at (k := len) _ j u hu (by simp)
        have := (hX i (by omega)).1 r hr
        rw [Addr.add_lit, Addr.add_lit, Nat.add_assoc] at this
        rw [this]
        simpa using hu2
    · obtain ⟨i, hi1, rfl⟩ := List.mem_map.1 hx
      exact (hX i (by have := List.mem_range.1 hi1; omega)).2.2
    · rw [hsp0, List.map_map]
      congr 1
      apply List.map_congr_left
      intro i hi1
      exact (hX i (by have := List.mem_range.1 hi1; omega)).2.1
set_option maxRecDepth 100000 in
theorem arg_ins {W : World} {base : Nat} {spare : Nat → Bool} {v : Value} {d : DataW H} {ps : List MemPlace}
    (hok : Value.okWide Tryz.prog W .any base 41 v) (h : DataW.Trod enc Tryz.prog W 0 spare true 41 v d ps) :
    ∃ l : List I, Go.Proofs.YtloeaihbnnnncaaGreatDoor.flows.Code W v l ∧ (∀ x ∈ l, Held x) ∧ (d = .nil ∧ l = [] ∨ ∃ sp, d = .slice (l.map insData) sp) := by
  obtain ⟨l, h1, h2, h3⟩ := arg_insR hok h
  exact ⟨l, h1, fun x hx => (h2 x hx).1, h3⟩
end

theorem ins_le {H : Type} {d : DataW H} {l : List I} (h : d = .nil ∧ l = [] ∨ ∃ sp, d = .slice (l.map insData) sp) : l.length ≤ Rows.uptoBulk d ∧ ∀ x ∈ l, x.t.size ≤ Rows.uptoBulk d := by
  rcases h with ⟨_, rfl⟩ | ⟨sp, rfl⟩
  · simp
  · have h1 := length_le (H := H) (l.map insData)
    rw [List.length_map] at h1
    refine ⟨by simp only [Rows.uptoBulk]; omega, fun x hx => ?_⟩
    have h2 := part_le (H := H) (d := insData x) (l := l.map insData) (List.mem_map_of_mem hx)
    have h3 : Rows.uptoBulk (H := H) (.lit (.string x.t.data.toList)) ≤ Rows.uptoBulk (H := H) (insData x) := by
      simp only [insData, Rows.uptoBulk, Rows.uptoBulkAll]
      omega
    have h4 := str_le (H := H) x.t
    simp only [Rows.uptoBulk] at h2 h3 h4 ⊢
    omega

/-- what a listed variable holds -/
theorem laid_at {P : Program} {w : World} : ∀ {l : List (String × DataW Unit)} {ps : List MemPlace} {n : String} {d : DataW Unit}, DataW.LaidVars P w l ps → (n, d) ∈ l →
    ∃ g t cs fuel p, P.globalNamed n = some g ∧ (P.globals[g]?).map (·.type) = some t ∧ w.var? P n = some cs ∧ DataW.trod (fun _ => ()) P w 0 (fun _ => true) false fuel t cs.toList = some (d, p)
  | [], _, _, _, _, hm => by cases hm
  | (n', d') :: r, ps, n, d, h, hm => by
    obtain ⟨g, t, cs, fuel, p, q, h1, h2, h3, h4, h5, _⟩ := h
    rcases List.mem_cons.1 hm with e | e
    · cases e
      exact ⟨g, t, cs, fuel, p, h1, h2, h3, h4⟩
    · exact laid_at h5 e

theorem tab_data : (Rows.laid_coffeehouse_ins_forms : DataW Unit) = .agg (formTab.map fun p => .agg [.lit (.string p.1), .lit (.string p.2)]) := by kernel_rfl
theorem cells_form : Tryz.prog.cellsOf 187 = 2 := by kernel_rfl

set_option maxRecDepth 100000 in
theorem forms_of {W : World} {laid : List (String × DataW Unit)} (h : laidMet Tryz.prog laid W) (hm : ("coffeehouse/ins.forms", (Rows.laid_coffeehouse_ins_forms : DataW Unit)) ∈ laid) : FormsAt W := by
  obtain ⟨ps, hv, _⟩ := h
  obtain ⟨g, t, cs, fuel, p, hg, ht, hvar, hd⟩ := laid_at hv hm
  obtain rfl := Option.some.inj ((show Tryz.prog.globalNamed "coffeehouse/ins.forms" = some 0 by kernel_rfl).symm.trans hg)
  obtain rfl := Option.some.inj ((show (Tryz.prog.globals[0]?).map (·.type) = some 242 by kernel_rfl).symm.trans ht)
  rw [tab_data] at hd
  obtain ⟨xs, m, _, ex, _, hl, hel⟩ := DataW.trod_array Tryz.underlying242 hd
  have e3 : xs.map (·.1) = formTab.map fun p => (.agg [.lit (.string p.1), .lit (.string p.2)] : DataW Unit) := (DataW.agg.inj (Prod.mk.inj ex).1).symm
  intro k q hq
  have hk29 : k < 29 := (List.getElem?_eq_some_iff.1 hq).1
  have hE := hel k hk29
  rw [cells_form, List.getElem?_eq_getElem (by omega)] at hE
  have e4 : (xs.map (·.1))[k]? = (formTab.map fun p => (.agg [.lit (.string p.1), .lit (.string p.2)] : DataW Unit))[k]? := by rw [e3]
  rw [List.getElem?_map, List.getElem?_map, List.getElem?_eq_getElem (by omega : k < xs.length), hq] at e4
  simp only [Option.map_some, Option.some.injEq] at e4
  obtain ⟨ys, m2, _, hx, hlen, hyl, hf⟩ := DataW.trod_struct Tryz.underlying187 hE
  have hl2 : ((cs.toList.drop (k * 2)).take 2).length = 2 := hlen.trans cells_form
  generalize hgen : (cs.toList.drop (k * 2)).take 2 = two at hl2 hf hE
  match two, hl2 with
  | [c0, c1], _ =>
    match ys, hyl with
    | [y0, y1], _ =>
      have h0 : DataW.trod (fun _ => ()) Tryz.prog W 0 (fun _ => true) false m2 9 (([c0, c1].drop 0).take (Tryz.prog.cellsOf 9)) = some y0 := hf 0 _ rfl
      rw [c_str] at h0
      have h1 : DataW.trod (fun _ => ()) Tryz.prog W 0 (fun _ => true) false m2 9 (([c0, c1].drop 1).take (Tryz.prog.cellsOf 9)) = some y1 := hf 1 _ rfl
      rw [c_str] at h1
      obtain ⟨z0, e0, f0, _⟩ := DataW.trod_string Tryz.underlying9 h0
      obtain ⟨z1, e1, f1, _⟩ := DataW.trod_string Tryz.underlying9 h1
      simp at e0 e1
      subst e0 e1
      have hxx := (Prod.mk.inj hx).1
      rw [f0, f1] at hxx
      simp only [List.map_cons, List.map_nil] at hxx
      have hxx2 : (xs[k]'(by omega)).1 = .agg [.lit (.string z0.data.toList), .lit (.string z1.data.toList)] := by first | exact hxx | (rw [hx])
      rw [hxx2] at e4
      simp only [DataW.agg.injEq, List.cons.injEq, DataW.lit.injEq, Lit.string.injEq, and_true] at e4
      have hz0 : z0 = bs q.1 := bs_of e4.1
      have hz1 : z1 = bs q.2 := bs_of e4.2
      have c0 : cs.toList[k * 2]? = some (.string z0) := by
        have : ((cs.toList.drop (k * 2)).take 2)[0]? = some (.string z0) := by rw [hgen]; rfl
        simpa using this
      have c1 : cs.toList[k * 2 + 1]? = some (.string z1) := by
        have : ((cs.toList.drop (k * 2)).take 2)[1]? = some (.string z1) := by rw [hgen]; rfl
        simpa using this
      rw [World.var?_cell hg hvar, World.var?_cell hg hvar, ← hz0, ← hz1]
      exact ⟨by simpa using c0, by simpa using c1⟩
end Go.Proofs.YtloeaihbnnnncaaGreatDoor.law
