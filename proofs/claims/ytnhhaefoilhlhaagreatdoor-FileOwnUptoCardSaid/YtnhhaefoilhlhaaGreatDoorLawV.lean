/- One instruction that came in by value; the variables that the library reads, off a row's list and the world's shape. No condition. -/
import Derived.Test.YtnhhaefoilhlhaaGreatDoorLawI
import Derived.Test.YtnhhaefoilhlhaaGreatDoorPrs2
import Derived.Shelf.Vars
import Derived.LaidLaws
import Derived.Test.YtnhhaefoilhlhaaGreatDoorLaw
namespace Go.Proofs.YtnhhaefoilhlhaaGreatDoor.law
open Go.ChangeShapes Go.WideShapes Go.ChangeAt Go.RowKit Go.Deep Go.Proofs.YtnhhaefoilhlhaaGreatDoor.lib Go.Proofs.YtnhhaefoilhlhaaGreatDoor.descs Go.Proofs.YtnhhaefoilhlhaaGreatDoor.ins Go.Proofs.YtnhhaefoilhlhaaGreatDoor.flows Go.Proofs.YtnhhaefoilhlhaaGreatDoor.txts Go.Proofs.YtnhhaefoilhlhaaGreatDoor.nums

section
variable {H : Type} {enc : TypeId × Value → H}
set_option maxRecDepth 100000 in
theorem arg_one {W : World} {base : Nat} {spare : Nat → Bool} {v : Value} {d : DataW H} {ps : List MemPlace}
    (hok : Value.okWide Tryz.prog W .any base 109 v) (h : DataW.Trod enc Tryz.prog W 0 spare true 109 v d ps) :
    ∃ x : I, v = .agg (rowI x) ∧ (InR x.a ∧ InR x.b) ∧ d = insData x := by
  obtain ⟨cs, rfl, _⟩ := okWide_struct Tryz.underlying109 hok
  obtain ⟨fuel, hf⟩ := h
  obtain ⟨x, hm, hd, _, ha, hb⟩ := ins_cellsR hf
  rw [Lit.wf, Bool.and_eq_true, decide_eq_true_eq, decide_eq_true_eq] at ha hb
  refine ⟨x, ?_, ⟨ha, hb⟩, hd⟩
  have e : cs.toList = x.cells := by rw [← hm]; simp [Value.cells]
  have e2 : cs = x.cells.toArray := by rw [← e]
  rw [e2]
  rfl
end
theorem one_fine {H : Type} {d : DataW H} {x : I} (h : d = insData x) (hi : InR x.a ∧ InR x.b) (hb : Rows.uptoBulk d ≤ 10000000) : Fine x ∧ x.c.size ≤ 10000000 ∧ x.n.size ≤ 10000000 := by
  subst h
  simp only [insData, Rows.uptoBulk, Rows.uptoBulkAll] at hb
  have h1 := size_len x.t
  have h2 := size_len x.c
  have h3 := size_len x.n
  exact ⟨⟨⟨by omega, by omega, by omega⟩, hi⟩, by omega, by omega⟩

theorem one_t {H : Type} {d : DataW H} {x : I} (h : d = insData x) : x.t.size ≤ Rows.uptoBulk d := by
  subst h
  have h1 := size_len x.t
  simp only [insData, Rows.uptoBulk, Rows.uptoBulkAll]
  omega

theorem pow_of {W : World} {laid : List (String × DataW Unit)} (h : laidMet Tryz.prog laid W) (hm : ("internal/strconv.uint64pow10", (Rows.laid_internal_strconv_uint64pow10 : DataW Unit)) ∈ laid) : Go.Proofs.YtnhhaefoilhlhaaGreatDoor.txts.Pow W := by
  obtain ⟨ps, hv, _⟩ := h
  obtain ⟨g, t, cs, fuel, p, hg, ht, hvar, hd⟩ := laid_at hv hm
  obtain rfl := Option.some.inj ((show Tryz.prog.globalNamed "internal/strconv.uint64pow10" = some 7 by kernel_rfl).symm.trans hg)
  obtain rfl := Option.some.inj ((show (Tryz.prog.globals[7]?).map (·.type) = some 181 by kernel_rfl).symm.trans ht)
  have e : (Rows.laid_internal_strconv_uint64pow10 : DataW Unit) = Lib.tabData .u64 Lib.pow10Tab := rfl
  rw [e] at hd
  have hc := Lib.cells_of_tab Tryz.underlying181 Tryz.underlying161 (by kernel_rfl) (by kernel_rfl) hd
  unfold Go.Proofs.YtnhhaefoilhlhaaGreatDoor.txts.Pow Lib.TabIs
  rw [hvar, ← hc]
theorem errS_of {W : World} {laid : List (String × DataW Unit)} (h : laidMet Tryz.prog laid W) (hm : ("strconv.ErrSyntax", (Rows.laid_strconv_ErrSyntax : DataW Unit)) ∈ laid) : ∃ tp p, W.var? Tryz.prog "strconv.ErrSyntax" = some #[.iface tp p] := by
  obtain ⟨ps, hv, _⟩ := h
  obtain ⟨g, t, cs, fuel, p, hg, ht, hvar, hd⟩ := laid_at hv hm
  obtain rfl := Option.some.inj ((show Tryz.prog.globalNamed "strconv.ErrSyntax" = some 5 by kernel_rfl).symm.trans hg)
  obtain rfl := Option.some.inj ((show (Tryz.prog.globals[5]?).map (·.type) = some 30 by kernel_rfl).symm.trans ht)
  obtain ⟨f', u, v, e, _, _⟩ := iface_of_trod Tryz.underlying30 hd
  exact ⟨u, v, by rw [hvar, show cs = #[Value.iface u v] from Array.ext' e]⟩
theorem errR_of {W : World} {laid : List (String × DataW Unit)} (h : laidMet Tryz.prog laid W) (hm : ("strconv.ErrRange", (Rows.laid_strconv_ErrRange : DataW Unit)) ∈ laid) : ∃ tp p, W.var? Tryz.prog "strconv.ErrRange" = some #[.iface tp p] := by
  obtain ⟨ps, hv, _⟩ := h
  obtain ⟨g, t, cs, fuel, p, hg, ht, hvar, hd⟩ := laid_at hv hm
  obtain rfl := Option.some.inj ((show Tryz.prog.globalNamed "strconv.ErrRange" = some 6 by kernel_rfl).symm.trans hg)
  obtain rfl := Option.some.inj ((show (Tryz.prog.globals[6]?).map (·.type) = some 30 by kernel_rfl).symm.trans ht)
  obtain ⟨f', u, v, e, _, _⟩ := iface_of_trod Tryz.underlying30 hd
  exact ⟨u, v, by rw [hvar, show cs = #[Value.iface u v] from Array.ext' e]⟩
theorem max_of {W : World} (h : W.ShapedOpen Tryz.prog) : ∃ m : Int, W.cell? ⟨2, 0, none⟩ = some (.int .i64 m) :=
  cell_of_shapedOpen_int (zero := #[.int .i64 0]) (t := 3) h (by decide +kernel) (by kernel_rfl) rfl (by kernel_rfl) (by kernel_rfl) Tryz.underlying3
theorem vars_of {W : World} {laid : List (String × DataW Unit)} (h : laidMet Tryz.prog laid W) (hs : W.ShapedOpen Tryz.prog) (h1 : ("coffeehouse/ins.forms", (Rows.laid_coffeehouse_ins_forms : DataW Unit)) ∈ laid)
    (h2 : ("internal/strconv.uint64pow10", (Rows.laid_internal_strconv_uint64pow10 : DataW Unit)) ∈ laid) (h3 : ("strconv.ErrSyntax", (Rows.laid_strconv_ErrSyntax : DataW Unit)) ∈ laid) (h4 : ("strconv.ErrRange", (Rows.laid_strconv_ErrRange : DataW Unit)) ∈ laid) : Vars W :=
  ⟨forms_of h h1, pow_of h h2, max_of hs, errS_of h h3, errR_of h h4⟩
end Go.Proofs.YtnhhaefoilhlhaaGreatDoor.law
