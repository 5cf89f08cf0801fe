/- One instruction that came in by value; the variables that the library reads, off a row's list and the world's shape. No condition. -/
import Derived.Test.YtloeaihbnnnncaaGreatDoorLawI
import Derived.Test.YtloeaihbnnnncaaGreatDoorPrs2
import Derived.Shelf.Vars
import Derived.LaidLaws
import Derived.Test.YtloeaihbnnnncaaGreatDoorLaw
import Derived.Test.YtloeaihbnnnncaaGreatDoorDskC
import Derived.Test.YtloeaihbnnnncaaGreatDoorDeskMathC
import Derived.Test.YtloeaihbnnnncaaGreatDoorCards
import Derived.Test.YtloeaihbnnnncaaGreatDoorTie
namespace Go.Proofs.YtloeaihbnnnncaaGreatDoor.law
open Go.ChangeShapes Go.WideShapes Go.ChangeAt Go.RowKit Go.Deep Go.Proofs.YtloeaihbnnnncaaGreatDoor.lib Go.Proofs.YtloeaihbnnnncaaGreatDoor.descs Go.Proofs.YtloeaihbnnnncaaGreatDoor.ins Go.Proofs.YtloeaihbnnnncaaGreatDoor.flows Go.Proofs.YtloeaihbnnnncaaGreatDoor.txts Go.Proofs.YtloeaihbnnnncaaGreatDoor.nums

section
variable {H : Type} {enc : TypeId × Value → H}
set_option maxRecDepth 100000 in
theorem arg_one {W : World} {base : Nat} {spare : Nat → Bool} {v : Value} {d : DataW H} {ps : List MemPlace}
    (hok : Value.okWide Tryz.prog W .any base 61 v) (h : DataW.Trod enc Tryz.prog W 0 spare true 61 v d ps) :
    ∃ x : I, v = .agg (rowI x) ∧ (InR x.a ∧ InR x.b) ∧ d = insData x := by
  obtain ⟨cs, rfl, _⟩ := okWide_struct Tryz.underlying61 hok
  obtain ⟨fuel, hf⟩ := h
  obtain ⟨x, hm, hd, _, ha, hb⟩ := ins_cellsR hf
  rw [Lit.wf, Bool.and_eq_true, decide_eq_true_eq, decide_eq_true_eq] at ha hb
  refine ⟨x, ?_, ⟨ha, hb⟩, hd⟩
  have e : cs.toList = x.cells := by rw [← hm]; simp [Value.cells]
  have e2 : cs = x.cells.toArray := by rw [← e]
  rw [e2]
  rfl
end
theorem one_fine {H : Type} {d : DataW H} {x : I} (h : d = insData x) (hi : InR x.a ∧ InR x.b) (hb : Rows.uptoBulk d ≤ 10000000) : Fine x ∧ x.c.size ≤ 10000000 ∧ x.n.size ≤ 10000000 := by
  subst h
  simp only [insData, Rows.uptoBulk, Rows.uptoBulkAll] at hb
  have h1 := size_len x.t
  have h2 := size_len x.c
  have h3 := size_len x.n
  exact ⟨⟨⟨by omega, by omega, by omega⟩, hi⟩, by omega, by omega⟩

theorem one_t {H : Type} {d : DataW H} {x : I} (h : d = insData x) : x.t.size ≤ Rows.uptoBulk d := by
  subst h
  have h1 := size_len x.t
  simp only [insData, Rows.uptoBulk, Rows.uptoBulkAll]
  omega

theorem pow_of {W : World} {laid : List (String × DataW Unit)} (h : laidMet Tryz.prog laid W) (hm : ("internal/strconv.uint64pow10", (Rows.laid_internal_strconv_uint64pow10 : DataW Unit)) ∈ laid) : Go.Proofs.YtloeaihbnnnncaaGreatDoor.txts.Pow W := by
  obtain ⟨ps, hv, _⟩ := h
  obtain ⟨g, t, cs, fuel, p, hg, ht, hvar, hd⟩ := laid_at hv hm
  obtain rfl := Option.some.inj ((show Tryz.prog.globalNamed "internal/strconv.uint64pow10" = some 6 by kernel_rfl).symm.trans hg)
  obtain rfl := Option.some.inj ((show (Tryz.prog.globals[6]?).map (·.type) = some 335 by kernel_rfl).symm.trans ht)
  have e : (Rows.laid_internal_strconv_uint64pow10 : DataW Unit) = Lib.tabData .u64 Lib.pow10Tab := rfl
  rw [e] at hd
  have hc := Lib.cells_of_tab Tryz.underlying335 Tryz.underlying211 (by kernel_rfl) (by kernel_rfl) hd
  unfold Go.Proofs.YtloeaihbnnnncaaGreatDoor.txts.Pow Lib.TabIs
  rw [hvar, ← hc]
theorem errS_of {W : World} {laid : List (String × DataW Unit)} (h : laidMet Tryz.prog laid W) (hm : ("strconv.ErrSyntax", (Rows.laid_strconv_ErrSyntax : DataW Unit)) ∈ laid) : ∃ tp p, W.var? Tryz.prog "strconv.ErrSyntax" = some #[.iface tp p] := by
  obtain ⟨ps, hv, _⟩ := h
  obtain ⟨g, t, cs, fuel, p, hg, ht, hvar, hd⟩ := laid_at hv hm
  obtain rfl := Option.some.inj ((show Tryz.prog.globalNamed "strconv.ErrSyntax" = some 4 by kernel_rfl).symm.trans hg)
  obtain rfl := Option.some.inj ((show (Tryz.prog.globals[4]?).map (·.type) = some 30 by kernel_rfl).symm.trans ht)
  obtain ⟨f', u, v, e, _, _⟩ := iface_of_trod Tryz.underlying30 hd
  exact ⟨u, v, by rw [hvar, show cs = #[Value.iface u v] from Array.ext' e]⟩
theorem errR_of {W : World} {laid : List (String × DataW Unit)} (h : laidMet Tryz.prog laid W) (hm : ("strconv.ErrRange", (Rows.laid_strconv_ErrRange : DataW Unit)) ∈ laid) : ∃ tp p, W.var? Tryz.prog "strconv.ErrRange" = some #[.iface tp p] := by
  obtain ⟨ps, hv, _⟩ := h
  obtain ⟨g, t, cs, fuel, p, hg, ht, hvar, hd⟩ := laid_at hv hm
  obtain rfl := Option.some.inj ((show Tryz.prog.globalNamed "strconv.ErrRange" = some 5 by kernel_rfl).symm.trans hg)
  obtain rfl := Option.some.inj ((show (Tryz.prog.globals[5]?).map (·.type) = some 30 by kernel_rfl).symm.trans ht)
  obtain ⟨f', u, v, e, _, _⟩ := iface_of_trod Tryz.underlying30 hd
  exact ⟨u, v, by rw [hvar, show cs = #[Value.iface u v] from Array.ext' e]⟩
theorem max_of {W : World} (h : W.ShapedOpen Tryz.prog) : ∃ m : Int, W.cell? ⟨1, 0, none⟩ = some (.int .i64 m) :=
  cell_of_shapedOpen_int (zero := #[.int .i64 0]) (t := 3) h (by decide +kernel) (by kernel_rfl) rfl (by kernel_rfl) (by kernel_rfl) Tryz.underlying3
theorem vars_of {W : World} {laid : List (String × DataW Unit)} (h : laidMet Tryz.prog laid W) (hs : W.ShapedOpen Tryz.prog) (h1 : ("coffeehouse/ins.forms", (Rows.laid_coffeehouse_ins_forms : DataW Unit)) ∈ laid)
    (h2 : ("internal/strconv.uint64pow10", (Rows.laid_internal_strconv_uint64pow10 : DataW Unit)) ∈ laid) (h3 : ("strconv.ErrSyntax", (Rows.laid_strconv_ErrSyntax : DataW Unit)) ∈ laid) (h4 : ("strconv.ErrRange", (Rows.laid_strconv_ErrRange : DataW Unit)) ∈ laid) : Vars W :=
  ⟨forms_of h h1, pow_of h h2, max_of hs, errS_of h h3, errR_of h h4⟩
end Go.Proofs.YtloeaihbnnnncaaGreatDoor.law

/- DeskMath: the command math prints num.Math, or the name of its error. -/
namespace Go.Proofs.YtloeaihbnnnncaaGreatDoor.deskMath
open Go.ChangeShapes Go.WideShapes Go.ChangeAt Go.RowKit Go.Proofs.YtloeaihbnnnncaaGreatDoor.lib Go.Proofs.YtloeaihbnnnncaaGreatDoor.law Go.Proofs.YtloeaihbnnnncaaGreatDoor.txts Go.Proofs.YtloeaihbnnnncaaGreatDoor.flows Go.Proofs.YtloeaihbnnnncaaGreatDoor.ins Go.Proofs.YtloeaihbnnnncaaGreatDoor.desks Go.Proofs.YtloeaihbnnnncaaGreatDoor.laid
open Go.ChangeMaps (open_string shut_string)

theorem own : ownKnob Tryz.prog.godebug = none := by kernel_rfl
theorem laidOut : laidOutB Tryz.prog = true := by kernel_rfl
theorem reads : (Tryz.f6.params.toList.all fun t => Tryz.prog.readableRec t && decide (t < Tryz.prog.types.size)) = true := by kernel_rfl

set_option maxRecDepth 100000 in
theorem contract (H : Type) (enc : TypeId × Value → H) (W : World) (base : Nat) (args : Array Value) (ds gs : List (DataW H)) (before : List MemPlace)
    (hval : ∀ (j : Nat) t v, Tryz.f6.params[j]? = some t → args[j]? = some v → Value.okWide Tryz.prog W .any base t v)
    (hW : DataW.Whole enc Tryz.prog Tryz.f6.params.toList Rows.deskMathSpec.vars false W args.toList ds gs before) (hV : Vars W) :
    Calls Tryz.prog 6 args W fun e W' => ∃ v, e = .returned v ∧ Rows.deskMathSpec.post enc Tryz.prog Tryz.f6 false true false false W args v W' := by
  have hW' := hW
  obtain ⟨p, q, hA0, hVs, hbef, hfz, hnd⟩ := hW
  have hA : DataW.TrodAll enc Tryz.prog W 0 (fun _ => true) true Tryz.f6.params.toList args.toList ds p := hA0
  rw [Tryz.params6] at hA hval
  obtain ⟨v0, vs0, d0, ds0, p0, q0, hargs, rfl, rfl, h0, r0⟩ := trodAll_cons hA
  obtain ⟨v1, vs1, d1, ds1, p1, q1, rfl, rfl, rfl, h1, r1⟩ := trodAll_cons r0
  obtain ⟨v2, vs2, d2, ds2, p2, q2, rfl, rfl, rfl, h2, r2⟩ := trodAll_cons r1
  obtain ⟨v3, vs3, d3, ds3, p3, q3, rfl, rfl, rfl, h3, r3⟩ := trodAll_cons r2
  obtain ⟨rfl, rfl, rfl⟩ := trodAll_nil r3
  obtain rfl : args = #[v0, v1, v2, v3] := by cases args; simp_all
  obtain ⟨rfl, rfl⟩ := trodVars_none hVs
  obtain ⟨x0, rfl, rfl, rfl⟩ := open_bool Tryz.underlying4 (hval 0 4 v0 rfl rfl) h0
  obtain ⟨x1, rfl, rfl, rfl, w1⟩ := open_int Tryz.underlying3 (hval 1 3 v1 rfl rfl) h1
  obtain ⟨x2, rfl, rfl, rfl, w2⟩ := open_int Tryz.underlying3 (hval 2 3 v2 rfl rfl) h2
  obtain ⟨x3, rfl, rfl, rfl, w3⟩ := open_int Tryz.underlying3 (hval 3 3 v3 rfl rfl) h3
  clear hA0 hA
  refine (deskMath_any x0 x1 x2 x3 W hV (wf_i64 w1) (wf_i64 w2) (wf_i64 w3)).mono fun e W' ⟨he, hb⟩ => ⟨_, he, ?_⟩
  refine law_post laidOut (fun t ht => ?_) rfl rfl Tryz.underlying4 hW' rfl rfl rfl hb
  have := List.all_eq_true.1 reads t ht
  simpa using this

theorem laid_met (os : Os) : laidMet Tryz.prog Rows.deskMathRow.laid ((laidWorldE os Rows.deskMathRow.laid).forCall (fun _ _ => 0) ⟨#[], #[.bool false, .int .i64 0, .int .i64 0, .int .i64 0], []⟩).memory :=
  laidMet_of_run' 8 (by kernel_rfl) (by kernel_rfl)
theorem reads_wit (os : Os) {H : Type} (enc : TypeId × Value → H) : ∃ places, DataW.whole enc Tryz.prog ((laidWorldE os Rows.deskMathRow.laid).forCall (fun _ _ => 0) ⟨#[], #[.bool false, .int .i64 0, .int .i64 0, .int .i64 0], []⟩).memory Tryz.f6.params.toList Rows.deskMathSpec.vars false (#[.bool false, .int .i64 0, .int .i64 0, .int .i64 0] : Array Value).toList 8 = some ([.lit (.bool false), .lit (.int .i64 0), .lit (.int .i64 0), .lit (.int .i64 0)], [], places) :=
  ⟨[], by kernel_rfl⟩

set_option maxRecDepth 100000 in
theorem lifted (os : Os) (started : os.Started) (H : Type) (enc : TypeId × Value → H) (F : Stop.Interp) :
    ReturnsInHanded {} Tryz.checked os 6 .any ((OpenSpec.ofChange Rows.deskMathSpec).preRow enc Tryz.prog Tryz.f6 Rows.deskMathRow.domain false Rows.deskMathRow.laid) (((OpenSpec.ofChange Rows.deskMathSpec).at F).post enc Tryz.prog Tryz.f6 false true false false) := by
  obtain ⟨places, hx⟩ := reads_wit os enc
  refine returnsInHanded_of_row (C := Tryz.checked) (s := OpenSpec.ofChange Rows.deskMathSpec) own started (by kernel_rfl) Tryz.func6
    (witness_row_at (enc := enc) (C := Tryz.checked) false (laidWorldE os Rows.deskMathRow.laid) #[.bool false, .int .i64 0, .int .i64 0, .int .i64 0] rfl (by kernel_rfl) (by kernel_rfl) (by kernel_rfl)
      (OpenSpec.preRow_of_cond 8 hx (by kernel_rfl) (fun k hk => by cases hk) (by kernel_rfl) (laid_met os))) ?_
  intro W base args ds gs before hval hW _ hcond hreach hL hsh _
  rw [MakeChecks.laidMetH_plain _ _ _ (by kernel_rfl)] at hL
  exact contract H enc W base args ds gs before hval hW (vars_of hL hsh (.tail _ (.tail _ (.tail _ (.tail _ (.tail _ (.tail _ (.head _))))))) (.tail _ (.tail _ (.head _))) (.tail _ (.tail _ (.tail _ (.tail _ (.tail _ (.head _)))))) (.tail _ (.tail _ (.tail _ (.tail _ (.head _))))))

theorem said : Rows.DeskMathSaid :=
  OpenClaim.holds_of_cond 6 Tryz.f6 rfl rfl rfl rfl rfl rfl rfl ⟨rfl, rfl, rfl, rfl, rfl⟩ rfl rfl rfl rfl rfl (by kernel_rfl) Tryz.func6 closed
    (of_decide_eq_true (by kernel_rfl)) (by unfold Func.isWrapper; first | (rw [if_pos (by decide +kernel)]; kernel_rfl) | (rw [if_neg (by decide +kernel)]; exact ⟨rfl, rfl⟩))
    (fun os started H enc _ F => by rw [OpenClaim.pre_eq_preRow]; exact lifted os started H enc F)

theorem wants : (Tryz.f6.params.toList.all fun t => !(Tryz.pinned.checked.prog.wantsStandIn t)) = true := by kernel_rfl
theorem plain (f : FuncId) (fn : Func) (hf : Tryz.pinned.checked.prog.funcNamed Rows.deskMathRow.func = some f) (hfn : Tryz.pinned.checked.prog.funcs[f]? = some fn) :
    true = Tryz.pinned.checked.prog.looks [] ∧ ∀ (j : Nat) t, fn.params[j]? = some t → Tryz.pinned.checked.prog.wantsStandIn t = false := by
  obtain rfl : f = 6 := Option.some.inj ((show Tryz.prog.funcNamed Rows.deskMathRow.func = some 6 by kernel_rfl).symm.trans hf) |>.symm
  obtain rfl : fn = Tryz.f6 := (Option.some.inj (Tryz.func6.symm.trans hfn)).symm
  refine ⟨by kernel_rfl, fun j t ht => ?_⟩
  have h := List.all_eq_true.1 wants t (by simpa using Array.mem_of_getElem? ht)
  simpa using h

theorem proved : Rows.DeskMathCardSaid :=
  Claim7.holds_tied_plain_at .later [] _ _ _ _ said (fun _ h => by cases h) (by kernel_rfl) (fun _ h => by cases h) deskMath_row_tie rfl ⟨rfl, rfl⟩ (by kernel_rfl) rfl plain (by kernel_rfl)
end Go.Proofs.YtloeaihbnnnncaaGreatDoor.deskMath
