/- Lists of classes, heaps and values that came in. No condition. -/
import Derived.Test.YtloeaihbnnnncaaGreatDoorLawC
import Derived.Test.YtloeaihbnnnncaaGreatDoorWld1
namespace Go.Proofs.YtloeaihbnnnncaaGreatDoor.worlds
open Go.RowKit Go.Proofs.YtloeaihbnnnncaaGreatDoor.lib Go.Proofs.YtloeaihbnnnncaaGreatDoor.classes
/-- a slice of classes, each of which reads as its lists -/
structure Clss (w : World) (v : Value) (l : List CV) : Prop where
  sl : Sl w v l.length 6 (l.flatMap CV.cells)
  at_ : ∀ c ∈ l, c.At w
theorem Clss.below {w w' : World} {v : Value} {l : List CV} (h : Clss w v l) (hb : Below w.heap.size w w') : Clss w' v l := ⟨h.sl.below hb, fun m hm => (h.at_ m hm).below hb⟩
end Go.Proofs.YtloeaihbnnnncaaGreatDoor.worlds
namespace Go.Proofs.YtloeaihbnnnncaaGreatDoor.law
open Go.ChangeShapes Go.WideShapes Go.ChangeAt Go.RowKit Go.Deep Go.Proofs.YtloeaihbnnnncaaGreatDoor.lib Go.Proofs.YtloeaihbnnnncaaGreatDoor.descs Go.Proofs.YtloeaihbnnnncaaGreatDoor.ins Go.Proofs.YtloeaihbnnnncaaGreatDoor.flows Go.Proofs.YtloeaihbnnnncaaGreatDoor.hdls Go.Proofs.YtloeaihbnnnncaaGreatDoor.classes Go.Proofs.YtloeaihbnnnncaaGreatDoor.worlds

section
variable {H : Type} {enc : TypeId × Value → H}
/-- a list of classes as a datum -/
def CsData (l : List CV) (d : DataW H) : Prop := ∃ q : List (CV × DataW H), l = q.map (·.1) ∧ SlData (fun p => p.2) q d ∧ ∀ p ∈ q, CData p.1 p.2
set_option maxRecDepth 100000 in
theorem clss_read {W : World} {spare : Nat → Bool} {held : Bool} {n : Nat} {v : Value} {y : DataW H × List MemPlace} (h : DataW.trod enc Tryz.prog W 0 spare held n 22 [v] = some y) :
    ∃ l : List CV, Clss W v l ∧ (∀ x ∈ l, HeldC x) ∧ CsData l y.1 := by
  obtain ⟨q, s, g, d⟩ := rows_read (T := CV × DataW H) (data := fun p => p.2) (Good := fun p => HeldC p.1 ∧ CData p.1 p.2 ∧ p.1.At W) (cells := fun p => p.1.cells) ⟨(zeroC, .nil)⟩ (by decide) (fun _ => rfl) Tryz.underlying22 cells_cls
    (fun {n cs y} h => by
      obtain ⟨m, h1, h2, h3, h4⟩ := cls_cells h
      exact ⟨(m, y.1), h1, rfl, h3, h4, h2⟩) h
  refine ⟨q.map (·.1), ⟨?_, fun m hm => ?_⟩, fun m hm => ?_, q, rfl, d, fun p hp => (g p hp).2.1⟩
  · rw [List.length_map, List.flatMap_map]; exact s
  · obtain ⟨p, hp, rfl⟩ := List.mem_map.1 hm
    exact (g p hp).2.2
  · obtain ⟨p, hp, rfl⟩ := List.mem_map.1 hm
    exact (g p hp).1
set_option maxRecDepth 100000 in
theorem slice_fuel {t e : TypeId} {W : World} {base : Nat} {spare : Nat → Bool} {v : Value} {d : DataW H} {ps : List MemPlace} (ht : Tryz.prog.underlying t = some (.slice e))
    (hok : Value.okWide Tryz.prog W .any base t v) (h : DataW.Trod enc Tryz.prog W 0 spare true t v d ps) : ∃ fuel, DataW.trod enc Tryz.prog W 0 spare true fuel t [v] = some (d, ps) := by
  obtain ⟨a0, len, cap, rfl⟩ := okWide_slice ht hok
  obtain ⟨fuel, hf⟩ := h
  exact ⟨fuel, by simpa [Value.cells] using hf⟩
set_option maxRecDepth 100000 in
/-- a list of classes that came in -/
theorem arg_clss {W : World} {base : Nat} {spare : Nat → Bool} {v : Value} {d : DataW H} {ps : List MemPlace}
    (hok : Value.okWide Tryz.prog W .any base 22 v) (h : DataW.Trod enc Tryz.prog W 0 spare true 22 v d ps) :
    ∃ l : List CV, Clss W v l ∧ (∀ x ∈ l, HeldC x) ∧ CsData l d := by
  obtain ⟨fuel, hf⟩ := slice_fuel Tryz.underlying22 hok h
  exact clss_read hf

theorem cells_vl : Tryz.prog.cellsOf 36 = 2 := by kernel_rfl
theorem cells_th : Tryz.prog.cellsOf 125 = 2 := by kernel_rfl
theorem cells_heap : Tryz.prog.cellsOf 80 = 1 := by kernel_rfl
theorem c_vlS : Tryz.prog.cellsOf 34 = 1 := by kernel_rfl
theorem c_thS : Tryz.prog.cellsOf 78 = 1 := by kernel_rfl
def vlData (x : Vl) : DataW H := .agg [.lit (.int .i64 x.k), .lit (.int .i64 x.n)]
def HeldV (x : Vl) : Prop := (Lit.int .i64 x.k).wf = true ∧ (Lit.int .i64 x.n).wf = true
set_option maxRecDepth 100000 in
theorem vl_cells {W : World} {spare : Nat → Bool} {held : Bool} {n : Nat} {cs : List Value} {y : DataW H × List MemPlace} (h : DataW.trod enc Tryz.prog W 0 spare held n 36 cs = some y) : ∃ x : Vl, cs = x.cells ∧ y.1 = vlData x ∧ HeldV x := by
  obtain ⟨xs, m, _, hx, hlen, hxl, hf⟩ := DataW.trod_struct Tryz.underlying36 h
  have hl2 : cs.length = 2 := hlen.trans cells_vl
  match cs, hl2 with
  | [c0, c1], _ =>
    match xs, hxl with
    | [y0, y1], _ =>
      have h0 : DataW.trod enc Tryz.prog W 0 spare held m 3 (([c0, c1].drop 0).take (Tryz.prog.cellsOf 3)) = some y0 := hf 0 _ rfl
      rw [c_int] at h0
      have h1 : DataW.trod enc Tryz.prog W 0 spare held m 3 (([c0, c1].drop 1).take (Tryz.prog.cellsOf 3)) = some y1 := hf 1 _ rfl
      rw [c_int] at h1
      obtain ⟨z0, e0, f0, g0⟩ := DataW.trod_int Tryz.underlying3 h0
      obtain ⟨z1, e1, f1, g1⟩ := DataW.trod_int Tryz.underlying3 h1
      simp at e0 e1
      subst e0 e1
      refine ⟨⟨z0, z1⟩, rfl, ?_, g0, g1⟩
      rw [hx, f0, f1]
      rfl
set_option maxRecDepth 100000 in
theorem vls_read {W : World} {spare : Nat → Bool} {held : Bool} {n : Nat} {v : Value} {y : DataW H × List MemPlace} (h : DataW.trod enc Tryz.prog W 0 spare held n 34 [v] = some y) :
    ∃ l : List Vl, Vls W v l ∧ (∀ x ∈ l, HeldV x) ∧ SlData vlData l y.1 :=
  rows_read (data := vlData) (Good := HeldV) (cells := Vl.cells) ⟨⟨0, 0⟩⟩ (by decide) (fun _ => rfl) Tryz.underlying34 cells_vl vl_cells h
set_option maxRecDepth 100000 in
/-- a list of values that came in -/
theorem arg_vls {W : World} {base : Nat} {spare : Nat → Bool} {v : Value} {d : DataW H} {ps : List MemPlace}
    (hok : Value.okWide Tryz.prog W .any base 34 v) (h : DataW.Trod enc Tryz.prog W 0 spare true 34 v d ps) :
    ∃ l : List Vl, Vls W v l ∧ (∀ x ∈ l, HeldV x) ∧ SlData vlData l d := by
  obtain ⟨fuel, hf⟩ := slice_fuel Tryz.underlying34 hok h
  exact vls_read hf
/-- a thing as a datum -/
def TData (x : Th) (d : DataW H) : Prop := ∃ dh, d = .agg [.lit (.string x.ty.data.toList), dh] ∧ SlData vlData x.has dh
def TsData (l : List Th) (d : DataW H) : Prop := ∃ q : List (Th × DataW H), l = q.map (·.1) ∧ SlData (fun p => p.2) q d ∧ ∀ p ∈ q, TData p.1 p.2
structure HeldT (x : Th) : Prop where
  ty : x.ty.size ≤ maxLen
  has : ∀ v ∈ x.has, HeldV v
set_option maxRecDepth 100000 in
theorem th_cells {W : World} {spare : Nat → Bool} {held : Bool} {n : Nat} {cs : List Value} {y : DataW H × List MemPlace} (h : DataW.trod enc Tryz.prog W 0 spare held n 125 cs = some y) :
    ∃ x : Th, cs = x.cells ∧ Vls W x.vh x.has ∧ HeldT x ∧ TData x y.1 := by
  obtain ⟨xs, m, _, hx, hlen, hxl, hf⟩ := DataW.trod_struct Tryz.underlying125 h
  have hl2 : cs.length = 2 := hlen.trans cells_th
  match cs, hl2 with
  | [c0, c1], _ =>
    match xs, hxl with
    | [y0, y1], _ =>
      have h0 : DataW.trod enc Tryz.prog W 0 spare held m 9 (([c0, c1].drop 0).take (Tryz.prog.cellsOf 9)) = some y0 := hf 0 _ rfl
      rw [c_str] at h0
      have h1 : DataW.trod enc Tryz.prog W 0 spare held m 34 (([c0, c1].drop 1).take (Tryz.prog.cellsOf 34)) = some y1 := hf 1 _ rfl
      rw [c_vlS] at h1
      obtain ⟨z0, e0, f0, g0⟩ := DataW.trod_string Tryz.underlying9 h0
      obtain ⟨l1, s1, g1, d1⟩ := vls_read (v := c1) h1
      simp at e0
      subst e0
      refine ⟨⟨z0, c1, l1⟩, rfl, s1, ⟨g0, g1⟩, y1.1, ?_, d1⟩
      rw [hx, f0]
      rfl
set_option maxRecDepth 100000 in
theorem ths_read {W : World} {spare : Nat → Bool} {held : Bool} {n : Nat} {v : Value} {y : DataW H × List MemPlace} (h : DataW.trod enc Tryz.prog W 0 spare held n 78 [v] = some y) :
    ∃ l : List Th, Ths W v l ∧ (∀ x ∈ l, HeldT x) ∧ TsData l y.1 := by
  obtain ⟨q, s, g, d⟩ := rows_read (T := Th × DataW H) (data := fun p => p.2) (Good := fun p => HeldT p.1 ∧ TData p.1 p.2 ∧ Vls W p.1.vh p.1.has) (cells := fun p => p.1.cells) ⟨(⟨.empty, .nilIface, []⟩, .nil)⟩ (by decide) (fun _ => rfl) Tryz.underlying78 cells_th
    (fun {n cs y} h => by
      obtain ⟨m, h1, h2, h3, h4⟩ := th_cells h
      exact ⟨(m, y.1), h1, rfl, h3, h4, h2⟩) h
  refine ⟨q.map (·.1), ⟨?_, fun m hm => ?_⟩, fun m hm => ?_, q, rfl, d, fun p hp => (g p hp).2.1⟩
  · rw [List.length_map, List.flatMap_map]; exact s
  · obtain ⟨p, hp, rfl⟩ := List.mem_map.1 hm
    exact (g p hp).2.2
  · obtain ⟨p, hp, rfl⟩ := List.mem_map.1 hm
    exact (g p hp).1
/-- a heap as a datum -/
def HpData (l : List Th) (d : DataW H) : Prop := ∃ dl, d = .agg [dl] ∧ TsData l dl
set_option maxRecDepth 100000 in
/-- a heap that came in -/
theorem arg_heap {W : World} {base : Nat} {spare : Nat → Bool} {v : Value} {d : DataW H} {ps : List MemPlace}
    (hok : Value.okWide Tryz.prog W .any base 80 v) (h : DataW.Trod enc Tryz.prog W 0 spare true 80 v d ps) :
    ∃ (vt : Value) (l : List Th), v = .agg #[vt] ∧ Ths W vt l ∧ (∀ x ∈ l, HeldT x) ∧ HpData l d := by
  obtain ⟨cs, rfl, _⟩ := okWide_struct Tryz.underlying80 hok
  obtain ⟨fuel, hf⟩ := h
  obtain ⟨xs, k, _, hx, hlen, hxl, hf⟩ := DataW.trod_struct Tryz.underlying80 hf
  have hl1 : (Value.agg cs).cells.toList.length = 1 := hlen.trans cells_heap
  obtain ⟨c0, hc0⟩ : ∃ c0, (Value.agg cs).cells.toList = [c0] := List.length_eq_one_iff.1 hl1
  have hcs : cs = #[c0] := by
    have : cs.toList = [c0] := by simpa [Value.cells] using hc0
    rw [← this]
  subst hcs
  match xs, hxl with
  | [y0], _ =>
    have h0 : DataW.trod enc Tryz.prog W 0 spare true k 78 ((((Value.agg #[c0]).cells.toList).drop 0).take (Tryz.prog.cellsOf 78)) = some y0 := hf 0 _ rfl
    rw [c_thS, hc0] at h0
    obtain ⟨l, s, g, dd⟩ := ths_read (v := c0) h0
    simp only [Prod.mk.injEq] at hx
    exact ⟨c0, l, rfl, s, g, y0.1, hx.1, dd⟩
end
theorem clss_le {H : Type} {l : List CV} {d : DataW H} (h : CsData l d) (hb : Rows.uptoBulk d ≤ 1048576) : l.length ≤ 1048576 ∧ ∀ c ∈ l, SmallC c := by
  obtain ⟨q, rfl, hs, hd⟩ := h
  obtain ⟨m1, m2⟩ := sl_le hs
  refine ⟨by rw [List.length_map]; omega, fun c hc => ?_⟩
  obtain ⟨p, hp, rfl⟩ := List.mem_map.1 hc
  exact cls_le (hd p hp) (by have := m2 p hp; omega)
structure SmallT (x : Th) : Prop where
  ty : x.ty.size ≤ 1048576
  has : x.has.length ≤ 1048576
theorem heap_le {H : Type} {l : List Th} {d : DataW H} (h : HpData l d) (hb : Rows.uptoBulk d ≤ 1048576) : l.length ≤ 1048576 ∧ ∀ x ∈ l, SmallT x := by
  obtain ⟨dl, rfl, q, rfl, hs, hd⟩ := h
  obtain ⟨m1, m2⟩ := sl_le hs
  simp only [Rows.uptoBulk, Rows.uptoBulkAll] at hb
  refine ⟨by rw [List.length_map]; omega, fun x hx => ?_⟩
  obtain ⟨p, hp, rfl⟩ := List.mem_map.1 hx
  have h3 := m2 p hp
  obtain ⟨dh, hdh, hh⟩ := hd p hp
  have h4 := (sl_le hh).1
  rw [hdh] at h3
  have h5 := str_le (H := H) p.1.ty
  simp only [Rows.uptoBulk, Rows.uptoBulkAll] at h3 h5
  exact ⟨by omega, by omega⟩
theorem vls_le {H : Type} {l : List Vl} {d : DataW H} (h : SlData vlData l d) : l.length ≤ Rows.uptoBulk d := (sl_le h).1
end Go.Proofs.YtloeaihbnnnncaaGreatDoor.law
