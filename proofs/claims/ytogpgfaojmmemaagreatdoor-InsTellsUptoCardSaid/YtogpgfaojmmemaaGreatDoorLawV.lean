/- One instruction that came in by value; the variables that the library reads, off a row's list and the world's shape. No condition. -/
import Derived.Test.YtogpgfaojmmemaaGreatDoorLawI
import Derived.Test.YtogpgfaojmmemaaGreatDoorPrs2
import Derived.Shelf.Vars
import Derived.LaidLaws
namespace Go.Proofs.YtogpgfaojmmemaaGreatDoor.law
open Go.ChangeShapes Go.WideShapes Go.ChangeAt Go.RowKit Go.Deep Go.Proofs.YtogpgfaojmmemaaGreatDoor.lib Go.Proofs.YtogpgfaojmmemaaGreatDoor.descs Go.Proofs.YtogpgfaojmmemaaGreatDoor.ins Go.Proofs.YtogpgfaojmmemaaGreatDoor.flows Go.Proofs.YtogpgfaojmmemaaGreatDoor.txts Go.Proofs.YtogpgfaojmmemaaGreatDoor.nums

section
variable {H : Type} {enc : TypeId × Value → H}
set_option maxRecDepth 100000 in
theorem arg_one {W : World} {base : Nat} {spare : Nat → Bool} {v : Value} {d : DataW H} {ps : List MemPlace}
    (hok : Value.okWide Tryz.prog W .any base 43 v) (h : DataW.Trod enc Tryz.prog W 0 spare true 43 v d ps) :
    ∃ x : I, v = .agg (rowI x) ∧ (InR x.a ∧ InR x.b) ∧ d = insData x := by
  obtain ⟨cs, rfl, _⟩ := okWide_struct Tryz.underlying43 hok
  obtain ⟨fuel, hf⟩ := h
  obtain ⟨x, hm, hd, _, ha, hb⟩ := ins_cellsR hf
  rw [Lit.wf, Bool.and_eq_true, decide_eq_true_eq, decide_eq_true_eq] at ha hb
  refine ⟨x, ?_, ⟨ha, hb⟩, hd⟩
  have e : cs.toList = x.cells := by rw [← hm]; simp [Value.cells]
  have e2 : cs = x.cells.toArray := by rw [← e]
  rw [e2]
  rfl
end
theorem one_fine {H : Type} {d : DataW H} {x : I} (h : d = insData x) (hi : InR x.a ∧ InR x.b) (hb : Rows.uptoBulk d ≤ 10000000) : Fine x ∧ x.c.size ≤ 10000000 ∧ x.n.size ≤ 10000000 := by
  subst h
  simp only [insData, Rows.uptoBulk, Rows.uptoBulkAll] at hb
  have h1 := size_len x.t
  have h2 := size_len x.c
  have h3 := size_len x.n
  exact ⟨⟨⟨by omega, by omega, by omega⟩, hi⟩, by omega, by omega⟩

theorem one_t {H : Type} {d : DataW H} {x : I} (h : d = insData x) : x.t.size ≤ Rows.uptoBulk d := by
  subst h
  have h1 := size_len x.t
  simp only [insData, Rows.uptoBulk, Rows.uptoBulkAll]
  omega

theorem pow_of {W : World} {laid : List (String × DataW Unit)} (h : laidMet Tryz.prog laid W) (hm : ("internal/strconv.uint64pow10", (Rows.laid_internal_strconv_uint64pow10 : DataW Unit)) ∈ laid) : Go.Proofs.YtogpgfaojmmemaaGreatDoor.txts.Pow W := by
  obtain ⟨ps, hv, _⟩ := h
  obtain ⟨g, t, cs, fuel, p, hg, ht, hvar, hd⟩ := laid_at hv hm
  obtain rfl := Option.some.inj ((show Tryz.prog.globalNamed "internal/strconv.uint64pow10" = some 7 by kernel_rfl).symm.trans hg)
  obtain rfl := Option.some.inj ((show (Tryz.prog.globals[7]?).map (·.type) = some 225 by kernel_rfl).symm.trans ht)
  have e : (Rows.laid_internal_strconv_uint64pow10 : DataW Unit) = Lib.tabData .u64 Lib.pow10Tab := rfl
  rw [e] at hd
  have hc := Lib.cells_of_tab Tryz.underlying225 Tryz.underlying177 (by kernel_rfl) (by kernel_rfl) hd
  unfold Go.Proofs.YtogpgfaojmmemaaGreatDoor.txts.Pow Lib.TabIs
  rw [hvar, ← hc]
theorem errS_of {W : World} {laid : List (String × DataW Unit)} (h : laidMet Tryz.prog laid W) (hm : ("strconv.ErrSyntax", (Rows.laid_strconv_ErrSyntax : DataW Unit)) ∈ laid) : ∃ tp p, W.var? Tryz.prog "strconv.ErrSyntax" = some #[.iface tp p] := by
  obtain ⟨ps, hv, _⟩ := h
  obtain ⟨g, t, cs, fuel, p, hg, ht, hvar, hd⟩ := laid_at hv hm
  obtain rfl := Option.some.inj ((show Tryz.prog.globalNamed "strconv.ErrSyntax" = some 3 by kernel_rfl).symm.trans hg)
  obtain rfl := Option.some.inj ((show (Tryz.prog.globals[3]?).map (·.type) = some 37 by kernel_rfl).symm.trans ht)
  obtain ⟨f', u, v, e, _, _⟩ := iface_of_trod Tryz.underlying37 hd
  exact ⟨u, v, by rw [hvar, show cs = #[Value.iface u v] from Array.ext' e]⟩
theorem errR_of {W : World} {laid : List (String × DataW Unit)} (h : laidMet Tryz.prog laid W) (hm : ("strconv.ErrRange", (Rows.laid_strconv_ErrRange : DataW Unit)) ∈ laid) : ∃ tp p, W.var? Tryz.prog "strconv.ErrRange" = some #[.iface tp p] := by
  obtain ⟨ps, hv, _⟩ := h
  obtain ⟨g, t, cs, fuel, p, hg, ht, hvar, hd⟩ := laid_at hv hm
  obtain rfl := Option.some.inj ((show Tryz.prog.globalNamed "strconv.ErrRange" = some 4 by kernel_rfl).symm.trans hg)
  obtain rfl := Option.some.inj ((show (Tryz.prog.globals[4]?).map (·.type) = some 37 by kernel_rfl).symm.trans ht)
  obtain ⟨f', u, v, e, _, _⟩ := iface_of_trod Tryz.underlying37 hd
  exact ⟨u, v, by rw [hvar, show cs = #[Value.iface u v] from Array.ext' e]⟩
theorem max_of {W : World} (h : W.ShapedOpen Tryz.prog) : ∃ m : Int, W.cell? ⟨2, 0, none⟩ = some (.int .i64 m) :=
  cell_of_shapedOpen_int (zero := #[.int .i64 0]) (t := 3) h (by decide +kernel) (by kernel_rfl) rfl (by kernel_rfl) (by kernel_rfl) Tryz.underlying3
theorem vars_of {W : World} {laid : List (String × DataW Unit)} (h : laidMet Tryz.prog laid W) (hs : W.ShapedOpen Tryz.prog) (h1 : ("coffeehouse/ins.forms", (Rows.laid_coffeehouse_ins_forms : DataW Unit)) ∈ laid)
    (h2 : ("internal/strconv.uint64pow10", (Rows.laid_internal_strconv_uint64pow10 : DataW Unit)) ∈ laid) (h3 : ("strconv.ErrSyntax", (Rows.laid_strconv_ErrSyntax : DataW Unit)) ∈ laid) (h4 : ("strconv.ErrRange", (Rows.laid_strconv_ErrRange : DataW Unit)) ∈ laid) : Vars W :=
  ⟨forms_of h h1, pow_of h h2, max_of hs, errS_of h h3, errR_of h h4⟩
end Go.Proofs.YtogpgfaojmmemaaGreatDoor.law
namespace Go.Proofs.YtogpgfaojmmemaaGreatDoor.laid
/-- a start that fits a list that has errors of errors.New in it -/
def errBlocks (l : List (String × DataW Unit)) : List Obj := l.filterMap fun p => match p.2 with
  | .iface _ (.ptr (.agg [.lit (.string t)])) => some (.cells #[.string ⟨t.toArray⟩] 218)
  | _ => none
noncomputable def errHeap (h : Array Obj) : List (String × DataW Unit) → Nat → Array Obj
  | [], _ => h
  | (n, .iface _ _) :: r, k => errHeap (h.modify ((Tryz.prog.globalNamed n).getD 0) fun | .cells _ t frozen => .cells #[.iface 216 (.pointer (some ⟨k, 0, none⟩))] t frozen | o => o) r (k + 1)
  | (_, _) :: r, k => errHeap h r k
noncomputable def laidWorldE (os : Os) (l : List (String × DataW Unit)) : World :=
  { World.holding Tryz.prog os ⟨(errBlocks l).toArray, #[], []⟩ with heap := errHeap (laidHeap (World.holding Tryz.prog os ⟨(errBlocks l).toArray, #[], []⟩).heap l) l (World.holding Tryz.prog default ⟨#[], #[], []⟩).heap.size }
end Go.Proofs.YtogpgfaojmmemaaGreatDoor.laid
