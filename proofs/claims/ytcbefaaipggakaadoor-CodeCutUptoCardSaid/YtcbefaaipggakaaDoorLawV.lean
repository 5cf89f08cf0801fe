/- One instruction that came in by value; the variables that the library reads, off a row's list and the world's shape. No condition. -/
import Derived.Test.YtcbefaaipggakaaDoorLawI
import Derived.Test.YtcbefaaipggakaaDoorPrs2
import Derived.Shelf.Vars
import Derived.LaidLaws
namespace Go.Proofs.YtcbefaaipggakaaDoor.law
open Go.ChangeShapes Go.WideShapes Go.ChangeAt Go.RowKit Go.Deep Go.Proofs.YtcbefaaipggakaaDoor.lib Go.Proofs.YtcbefaaipggakaaDoor.descs Go.Proofs.YtcbefaaipggakaaDoor.ins Go.Proofs.YtcbefaaipggakaaDoor.flows Go.Proofs.YtcbefaaipggakaaDoor.txts Go.Proofs.YtcbefaaipggakaaDoor.nums

section
variable {H : Type} {enc : TypeId × Value → H}
set_option maxRecDepth 100000 in
theorem arg_one {W : World} {base : Nat} {spare : Nat → Bool} {v : Value} {d : DataW H} {ps : List MemPlace}
    (hok : Value.okWide Tryd.prog W .any base 36 v) (h : DataW.Trod enc Tryd.prog W 0 spare true 36 v d ps) :
    ∃ x : I, v = .agg (rowI x) ∧ (InR x.a ∧ InR x.b) ∧ d = insData x := by
  obtain ⟨cs, rfl, _⟩ := okWide_struct Tryd.underlying36 hok
  obtain ⟨fuel, hf⟩ := h
  obtain ⟨x, hm, hd, _, ha, hb⟩ := ins_cellsR hf
  rw [Lit.wf, Bool.and_eq_true, decide_eq_true_eq, decide_eq_true_eq] at ha hb
  refine ⟨x, ?_, ⟨ha, hb⟩, hd⟩
  have e : cs.toList = x.cells := by rw [← hm]; simp [Value.cells]
  have e2 : cs = x.cells.toArray := by rw [← e]
  rw [e2]
  rfl
end
theorem one_fine {H : Type} {d : DataW H} {x : I} (h : d = insData x) (hi : InR x.a ∧ InR x.b) (hb : Rows.uptoBulk d ≤ 10000000) : Fine x ∧ x.c.size ≤ 10000000 ∧ x.n.size ≤ 10000000 := by
  subst h
  simp only [insData, Rows.uptoBulk, Rows.uptoBulkAll] at hb
  have h1 := size_len x.t
  have h2 := size_len x.c
  have h3 := size_len x.n
  exact ⟨⟨⟨by omega, by omega, by omega⟩, hi⟩, by omega, by omega⟩

theorem one_t {H : Type} {d : DataW H} {x : I} (h : d = insData x) : x.t.size ≤ Rows.uptoBulk d := by
  subst h
  have h1 := size_len x.t
  simp only [insData, Rows.uptoBulk, Rows.uptoBulkAll]
  omega

theorem pow_of {W : World} {laid : List (String × DataW Unit)} (h : laidMet Tryd.prog laid W) (hm : ("internal/strconv.uint64pow10", (Rows.laid_internal_strconv_uint64pow10 : DataW Unit)) ∈ laid) : Go.Proofs.YtcbefaaipggakaaDoor.txts.Pow W := by
  obtain ⟨ps, hv, _⟩ := h
  obtain ⟨g, t, cs, fuel, p, hg, ht, hvar, hd⟩ := laid_at hv hm
  obtain rfl := Option.some.inj ((show Tryd.prog.globalNamed "internal/strconv.uint64pow10" = some 6 by kernel_rfl).symm.trans hg)
  obtain rfl := Option.some.inj ((show (Tryd.prog.globals[6]?).map (·.type) = some 114 by kernel_rfl).symm.trans ht)
  have e : (Rows.laid_internal_strconv_uint64pow10 : DataW Unit) = Lib.tabData .u64 Lib.pow10Tab := rfl
  rw [e] at hd
  have hc := Lib.cells_of_tab Tryd.underlying114 Tryd.underlying94 (by kernel_rfl) (by kernel_rfl) hd
  unfold Go.Proofs.YtcbefaaipggakaaDoor.txts.Pow Lib.TabIs
  rw [hvar, ← hc]
theorem errS_of {W : World} {laid : List (String × DataW Unit)} (h : laidMet Tryd.prog laid W) (hm : ("strconv.ErrSyntax", (Rows.laid_strconv_ErrSyntax : DataW Unit)) ∈ laid) : ∃ tp p, W.var? Tryd.prog "strconv.ErrSyntax" = some #[.iface tp p] := by
  obtain ⟨ps, hv, _⟩ := h
  obtain ⟨g, t, cs, fuel, p, hg, ht, hvar, hd⟩ := laid_at hv hm
  obtain rfl := Option.some.inj ((show Tryd.prog.globalNamed "strconv.ErrSyntax" = some 2 by kernel_rfl).symm.trans hg)
  obtain rfl := Option.some.inj ((show (Tryd.prog.globals[2]?).map (·.type) = some 26 by kernel_rfl).symm.trans ht)
  obtain ⟨f', u, v, e, _, _⟩ := iface_of_trod Tryd.underlying26 hd
  exact ⟨u, v, by rw [hvar, show cs = #[Value.iface u v] from Array.ext' e]⟩
theorem errR_of {W : World} {laid : List (String × DataW Unit)} (h : laidMet Tryd.prog laid W) (hm : ("strconv.ErrRange", (Rows.laid_strconv_ErrRange : DataW Unit)) ∈ laid) : ∃ tp p, W.var? Tryd.prog "strconv.ErrRange" = some #[.iface tp p] := by
  obtain ⟨ps, hv, _⟩ := h
  obtain ⟨g, t, cs, fuel, p, hg, ht, hvar, hd⟩ := laid_at hv hm
  obtain rfl := Option.some.inj ((show Tryd.prog.globalNamed "strconv.ErrRange" = some 3 by kernel_rfl).symm.trans hg)
  obtain rfl := Option.some.inj ((show (Tryd.prog.globals[3]?).map (·.type) = some 26 by kernel_rfl).symm.trans ht)
  obtain ⟨f', u, v, e, _, _⟩ := iface_of_trod Tryd.underlying26 hd
  exact ⟨u, v, by rw [hvar, show cs = #[Value.iface u v] from Array.ext' e]⟩
theorem max_of {W : World} (h : W.ShapedOpen Tryd.prog) : ∃ m : Int, W.cell? ⟨1, 0, none⟩ = some (.int .i64 m) :=
  cell_of_shapedOpen_int (zero := #[.int .i64 0]) (t := 3) h (by decide +kernel) (by kernel_rfl) rfl (by kernel_rfl) (by kernel_rfl) Tryd.underlying3
theorem vars_of {W : World} {laid : List (String × DataW Unit)} (h : laidMet Tryd.prog laid W) (hs : W.ShapedOpen Tryd.prog) (h1 : ("coffeehouse/ins.forms", (Rows.laid_coffeehouse_ins_forms : DataW Unit)) ∈ laid)
    (h2 : ("internal/strconv.uint64pow10", (Rows.laid_internal_strconv_uint64pow10 : DataW Unit)) ∈ laid) (h3 : ("strconv.ErrSyntax", (Rows.laid_strconv_ErrSyntax : DataW Unit)) ∈ laid) (h4 : ("strconv.ErrRange", (Rows.laid_strconv_ErrRange : DataW Unit)) ∈ laid) : Vars W :=
  ⟨forms_of h h1, pow_of h h2, max_of hs, errS_of h h3, errR_of h h4⟩
end Go.Proofs.YtcbefaaipggakaaDoor.law
namespace Go.Proofs.YtcbefaaipggakaaDoor.laid
/-- a start that fits a list that has errors of errors.New in it -/
def errBlocks (l : List (String × DataW Unit)) : List Obj := l.filterMap fun p => match p.2 with
  | .iface _ (.ptr (.agg [.lit (.string t)])) => some (.cells #[.string ⟨t.toArray⟩] 121)
  | _ => none
noncomputable def errHeap (h : Array Obj) : List (String × DataW Unit) → Nat → Array Obj
  | [], _ => h
  | (n, .iface _ _) :: r, k => errHeap (h.modify ((Tryd.prog.globalNamed n).getD 0) fun | .cells _ t frozen => .cells #[.iface 119 (.pointer (some ⟨k, 0, none⟩))] t frozen | o => o) r (k + 1)
  | (_, _) :: r, k => errHeap h r k
noncomputable def laidWorldE (os : Os) (l : List (String × DataW Unit)) : World :=
  { World.holding Tryd.prog os ⟨(errBlocks l).toArray, #[], []⟩ with heap := errHeap (laidHeap (World.holding Tryd.prog os ⟨(errBlocks l).toArray, #[], []⟩).heap l) l (World.holding Tryd.prog default ⟨#[], #[], []⟩).heap.size }
end Go.Proofs.YtcbefaaipggakaaDoor.laid
