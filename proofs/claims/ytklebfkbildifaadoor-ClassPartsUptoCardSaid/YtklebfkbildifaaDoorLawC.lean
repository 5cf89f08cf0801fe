/- Classes that came in. No condition. -/
import Derived.Test.YtklebfkbildifaaDoorLawM
import Derived.Test.YtklebfkbildifaaDoorCls1
namespace Go.Proofs.YtklebfkbildifaaDoor.law
open Go.ChangeShapes Go.WideShapes Go.ChangeAt Go.RowKit Go.Deep Go.Proofs.YtklebfkbildifaaDoor.lib Go.Proofs.YtklebfkbildifaaDoor.descs Go.Proofs.YtklebfkbildifaaDoor.ins Go.Proofs.YtklebfkbildifaaDoor.flows Go.Proofs.YtklebfkbildifaaDoor.hdls Go.Proofs.YtklebfkbildifaaDoor.classes

section
variable {H : Type} {enc : TypeId × Value → H}
theorem c_strS : Tryd.prog.cellsOf 50 = 1 := by kernel_rfl
theorem c_fdS : Tryd.prog.cellsOf 51 = 1 := by kernel_rfl
theorem c_metS : Tryd.prog.cellsOf 52 = 1 := by kernel_rfl
theorem cells_fd : Tryd.prog.cellsOf 92 = 2 := by kernel_rfl
theorem cells_cls : Tryd.prog.cellsOf 54 = 6 := by kernel_rfl

def strData (x : ByteArray) : DataW H := .lit (.string x.data.toList)
def fdData (x : classes.Fd) : DataW H := .agg [.lit (.string x.nm.data.toList), .lit (.string x.ty.data.toList)]

theorem str_cells {W : World} {spare : Nat → Bool} {held : Bool} {n : Nat} {cs : List Value} {y : DataW H × List MemPlace} (h : DataW.trod enc Tryd.prog W 0 spare held n 9 cs = some y) : ∃ x : ByteArray, cs = [.string x] ∧ y.1 = strData x ∧ x.size ≤ maxLen := by
  obtain ⟨z0, e0, f0, g0⟩ := DataW.trod_string Tryd.underlying9 h
  exact ⟨z0, e0, by rw [f0]; rfl, g0⟩

set_option maxRecDepth 100000 in
theorem fd_cells {W : World} {spare : Nat → Bool} {held : Bool} {n : Nat} {cs : List Value} {y : DataW H × List MemPlace} (h : DataW.trod enc Tryd.prog W 0 spare held n 92 cs = some y) : ∃ x : classes.Fd, cs = x.cells ∧ y.1 = fdData x ∧ (x.nm.size ≤ maxLen ∧ x.ty.size ≤ maxLen) := by
  obtain ⟨xs, m, _, hx, hlen, hxl, hf⟩ := DataW.trod_struct Tryd.underlying92 h
  have hl2 : cs.length = 2 := hlen.trans cells_fd
  match cs, hl2 with
  | [c0, c1], _ =>
    match xs, hxl with
    | [y0, y1], _ =>
      have h0 : DataW.trod enc Tryd.prog W 0 spare held m 9 (([c0, c1].drop 0).take (Tryd.prog.cellsOf 9)) = some y0 := hf 0 _ rfl
      rw [c_str] at h0
      have h1 : DataW.trod enc Tryd.prog W 0 spare held m 9 (([c0, c1].drop 1).take (Tryd.prog.cellsOf 9)) = some y1 := hf 1 _ rfl
      rw [c_str] at h1
      obtain ⟨z0, e0, f0, g0⟩ := DataW.trod_string Tryd.underlying9 h0
      obtain ⟨z1, e1, f1, g1⟩ := DataW.trod_string Tryd.underlying9 h1
      simp at e0 e1
      subst e0 e1
      refine ⟨⟨z0, z1⟩, rfl, ?_, g0, g1⟩
      rw [hx, f0, f1]
      rfl

theorem flat_one : ∀ (l : List ByteArray), (l.flatMap fun x => [Value.string x]) = l.map .string
  | [] => rfl
  | x :: l => by rw [List.flatMap_cons, flat_one l]; rfl
/-- a list of methods as a datum -/
def MsData (l : List MV) (d : DataW H) : Prop := ∃ q : List (MV × DataW H), l = q.map (·.1) ∧ SlData (fun p => p.2) q d ∧ ∀ p ∈ q, MData p.1 p.2
structure HeldC (c : CV) : Prop where
  nm : c.nm.size ≤ maxLen
  sup : c.sup.size ≤ maxLen
  faces : ∀ x ∈ c.faces, x.size ≤ maxLen
  fields : ∀ x ∈ c.fields, x.nm.size ≤ maxLen ∧ x.ty.size ≤ maxLen
  mets : ∀ x ∈ c.mets, HeldM x
/-- a class as a datum -/
def CData (c : CV) (d : DataW H) : Prop := ∃ df dd dm, d = .agg [.lit (.string c.nm.data.toList), .lit (.string c.sup.data.toList), df, .lit (.bool c.face), dd, dm] ∧ SlData strData c.faces df ∧ SlData fdData c.fields dd ∧ MsData c.mets dm

theorem mets_read {W : World} {spare : Nat → Bool} {held : Bool} {n : Nat} {v : Value} {y : DataW H × List MemPlace} (h : DataW.trod enc Tryd.prog W 0 spare held n 52 [v] = some y) :
    ∃ l : List MV, Mets W v l ∧ (∀ x ∈ l, HeldM x) ∧ MsData l y.1 := by
  obtain ⟨q, s, g, d⟩ := rows_read (T := MV × DataW H) (data := fun p => p.2) (Good := fun p => HeldM p.1 ∧ MData p.1 p.2 ∧ p.1.At W) (cells := fun p => p.1.cells) ⟨(⟨.empty, .empty, false, false, false, 0, .nilIface, .nilIface, [], []⟩, .nil)⟩ (by decide) (fun _ => rfl) Tryd.underlying52 cells_met
    (fun {n cs y} h => by
      obtain ⟨m, h1, h2, h3, h4⟩ := met_cells h
      exact ⟨(m, y.1), h1, rfl, h3, h4, h2⟩) h
  refine ⟨q.map (·.1), ⟨?_, fun m hm => ?_⟩, fun m hm => ?_, q, rfl, d, fun p hp => (g p hp).2.1⟩
  · rw [List.length_map, List.flatMap_map]; exact s
  · obtain ⟨p, hp, rfl⟩ := List.mem_map.1 hm
    exact (g p hp).2.2
  · obtain ⟨p, hp, rfl⟩ := List.mem_map.1 hm
    exact (g p hp).1

set_option maxRecDepth 100000 in
theorem cls_cells {W : World} {spare : Nat → Bool} {held : Bool} {n : Nat} {cs : List Value} {y : DataW H × List MemPlace} (h : DataW.trod enc Tryd.prog W 0 spare held n 54 cs = some y) :
    ∃ c : CV, cs = c.cells ∧ c.At W ∧ HeldC c ∧ CData c y.1 := by
  obtain ⟨xs, k, _, hx, hlen, hxl, hf⟩ := DataW.trod_struct Tryd.underlying54 h
  have hl6 : cs.length = 6 := hlen.trans cells_cls
  match cs, hl6 with
  | [c0, c1, c2, c3, c4, c5], _ =>
    match xs, hxl with
    | [y0, y1, y2, y3, y4, y5], _ =>
      have h0 : DataW.trod enc Tryd.prog W 0 spare held k 9 (([c0, c1, c2, c3, c4, c5].drop 0).take (Tryd.prog.cellsOf 9)) = some y0 := hf 0 _ rfl
      rw [c_str] at h0
      have h1 : DataW.trod enc Tryd.prog W 0 spare held k 9 (([c0, c1, c2, c3, c4, c5].drop 1).take (Tryd.prog.cellsOf 9)) = some y1 := hf 1 _ rfl
      rw [c_str] at h1
      have h2 : DataW.trod enc Tryd.prog W 0 spare held k 50 (([c0, c1, c2, c3, c4, c5].drop 2).take (Tryd.prog.cellsOf 50)) = some y2 := hf 2 _ rfl
      rw [c_strS] at h2
      have h3 : DataW.trod enc Tryd.prog W 0 spare held k 4 (([c0, c1, c2, c3, c4, c5].drop 3).take (Tryd.prog.cellsOf 4)) = some y3 := hf 3 _ rfl
      rw [c_bool] at h3
      have h4 : DataW.trod enc Tryd.prog W 0 spare held k 51 (([c0, c1, c2, c3, c4, c5].drop 4).take (Tryd.prog.cellsOf 51)) = some y4 := hf 4 _ rfl
      rw [c_fdS] at h4
      have h5 : DataW.trod enc Tryd.prog W 0 spare held k 52 (([c0, c1, c2, c3, c4, c5].drop 5).take (Tryd.prog.cellsOf 52)) = some y5 := hf 5 _ rfl
      rw [c_metS] at h5
      obtain ⟨z0, e0, f0, g0⟩ := DataW.trod_string Tryd.underlying9 h0
      obtain ⟨z1, e1, f1, g1⟩ := DataW.trod_string Tryd.underlying9 h1
      obtain ⟨z3, e3, f3⟩ := DataW.trod_bool Tryd.underlying4 h3
      obtain ⟨l2, s2, g2, d2⟩ := rows_read (data := strData) (Good := fun x => x.size ≤ maxLen) (cells := fun x : ByteArray => [Value.string x]) ⟨.empty⟩ (by decide) (fun _ => rfl) Tryd.underlying50 c_str str_cells (v := c2) h2
      obtain ⟨l4, s4, g4, d4⟩ := rows_read (data := fdData) (Good := fun x => x.nm.size ≤ maxLen ∧ x.ty.size ≤ maxLen) (cells := classes.Fd.cells) ⟨⟨.empty, .empty⟩⟩ (by decide) (fun _ => rfl) Tryd.underlying51 cells_fd fd_cells (v := c4) h4
      obtain ⟨l5, s5, g5, d5⟩ := mets_read (v := c5) h5
      simp at e0 e1 e3
      subst e0 e1 e3
      refine ⟨⟨z0, z1, c2, z3, c4, c5, l2, l4, l5⟩, rfl, ⟨?_, s4, s5⟩, ⟨g0, g1, g2, g4, g5⟩, y2.1, y4.1, y5.1, ?_, d2, d4, d5⟩
      · rw [flat_one] at s2; exact s2
      · rw [hx, f0, f1, f3]
        rfl

set_option maxRecDepth 100000 in
/-- a class that came in -/
theorem arg_cls {W : World} {base : Nat} {spare : Nat → Bool} {v : Value} {d : DataW H} {ps : List MemPlace}
    (hok : Value.okWide Tryd.prog W .any base 54 v) (h : DataW.Trod enc Tryd.prog W 0 spare true 54 v d ps) :
    ∃ c : CV, v = .agg c.cells.toArray ∧ c.At W ∧ HeldC c ∧ CData c d := by
  obtain ⟨cs, rfl, _⟩ := okWide_struct Tryd.underlying54 hok
  obtain ⟨fuel, hf⟩ := h
  obtain ⟨c, hm, h1, h2, h3⟩ := cls_cells hf
  exact ⟨c, by rw [← hm]; simp [Value.cells], h1, h2, h3⟩
end

theorem cls_le {H : Type} {c : CV} {d : DataW H} (h : CData c d) (hb : Rows.uptoBulk d ≤ 1048576) : SmallC c := by
  obtain ⟨df, dd, dm, rfl, hf, hd, q, hq, hm, hg⟩ := h
  have h0 := str_le (H := H) c.nm
  have h1 := str_le (H := H) c.sup
  obtain ⟨f1, f2⟩ := sl_le hf
  obtain ⟨d1, d2⟩ := sl_le hd
  obtain ⟨m1, m2⟩ := sl_le hm
  simp only [Rows.uptoBulk, Rows.uptoBulkAll] at hb h0 h1
  refine ⟨by omega, by omega, by omega, fun x hx => ?_, by omega, fun x hx => ?_, by rw [hq, List.length_map]; omega, fun x hx => ?_⟩
  · have a := f2 x hx
    have b := str_le (H := H) x
    simp only [strData, Rows.uptoBulk] at a b
    omega
  · have a := d2 x hx
    have b := str_le (H := H) x.nm
    have c := str_le (H := H) x.ty
    simp only [fdData, Rows.uptoBulk, Rows.uptoBulkAll] at a b c
    omega
  · rw [hq] at hx
    obtain ⟨p, hp, rfl⟩ := List.mem_map.1 hx
    exact met_le (hg p hp) (by have := m2 p hp; omega)
end Go.Proofs.YtklebfkbildifaaDoor.law
