/- CodeTells: for all instructions, Encode returns what the reference says. -/
import Derived.Test.YtmbcjcicieiolaaDoorTxt7
import Derived.Test.YtmbcjcicieiolaaDoorLawI
import Derived.Test.YtmbcjcicieiolaaDoorLaw
import Derived.Test.YtmbcjcicieiolaaDoorCards
import Derived.Test.YtmbcjcicieiolaaDoorTie
namespace Go.Proofs.YtmbcjcicieiolaaDoor.codeTells
open Go.ChangeShapes Go.WideShapes Go.ChangeAt Go.RowKit Go.Proofs.YtmbcjcicieiolaaDoor.lib Go.Proofs.YtmbcjcicieiolaaDoor.law Go.Proofs.YtmbcjcicieiolaaDoor.txts Go.Proofs.YtmbcjcicieiolaaDoor.flows Go.Proofs.YtmbcjcicieiolaaDoor.ins Go.Proofs.YtmbcjcicieiolaaDoor.laid
open Go.ChangeMaps (open_string shut_string)

theorem own : ownKnob Tryd.prog.godebug = none := by kernel_rfl
theorem laidOut : laidOutB Tryd.prog = true := by kernel_rfl
theorem reads : (Tryd.f6.params.toList.all fun t => Tryd.prog.readableRec t && decide (t < Tryd.prog.types.size)) = true := by kernel_rfl
theorem in_of {n : Int} (h : (Lit.int .i64 n).wf = true) : Go.Proofs.YtmbcjcicieiolaaDoor.nums.InR n := by
  rw [Lit.wf, Bool.and_eq_true, decide_eq_true_eq, decide_eq_true_eq] at h
  exact h
theorem pow_of {W : World} {laid : List (String × DataW Unit)} (h : laidMet Tryd.prog laid W) (hm : ("internal/strconv.uint64pow10", (Rows.laid_internal_strconv_uint64pow10 : DataW Unit)) ∈ laid) : Go.Proofs.YtmbcjcicieiolaaDoor.txts.Pow W := by
  obtain ⟨ps, hv, _⟩ := h
  obtain ⟨g, t, cs, fuel, p, hg, ht, hvar, hd⟩ := laid_at hv hm
  obtain rfl := Option.some.inj ((show Tryd.prog.globalNamed "internal/strconv.uint64pow10" = some 4 by kernel_rfl).symm.trans hg)
  obtain rfl := Option.some.inj ((show (Tryd.prog.globals[4]?).map (·.type) = some 165 by kernel_rfl).symm.trans ht)
  have e : (Rows.laid_internal_strconv_uint64pow10 : DataW Unit) = Lib.tabData .u64 Lib.pow10Tab := rfl
  rw [e] at hd
  have hc := Lib.cells_of_tab Tryd.underlying165 Tryd.underlying134 (by kernel_rfl) (by kernel_rfl) hd
  unfold Go.Proofs.YtmbcjcicieiolaaDoor.txts.Pow Lib.TabIs
  rw [hvar, ← hc]

set_option maxRecDepth 100000 in
theorem contract (H : Type) (enc : TypeId × Value → H) (W : World) (base : Nat) (args : Array Value) (ds gs : List (DataW H)) (before : List MemPlace)
    (hval : ∀ (j : Nat) t v, Tryd.f6.params[j]? = some t → args[j]? = some v → Value.okWide Tryd.prog W .any base t v)
    (hW : DataW.Whole enc Tryd.prog Tryd.f6.params.toList Rows.codeTellsSpec.vars false W args.toList ds gs before) (hF : FormsAt W) (hPw : Go.Proofs.YtmbcjcicieiolaaDoor.txts.Pow W) (hk : Rows.uptoSmall H (ds ++ gs) = true) :
    Calls Tryd.prog 6 args W fun e W' => ∃ v, e = .returned v ∧ Rows.codeTellsSpec.post enc Tryd.prog Tryd.f6 false true false false W args v W' := by
  have hW' := hW
  have hB := bound hk
  obtain ⟨p, q, hA0, hV, hbef, hfz, hnd⟩ := hW
  have hA : DataW.TrodAll enc Tryd.prog W 0 (fun _ => true) true Tryd.f6.params.toList args.toList ds p := hA0
  rw [Tryd.params6] at hA hval
  obtain ⟨v0, vs0, d0, ds0, p0, q0, hargs, rfl, rfl, h0, r0⟩ := trodAll_cons hA
  obtain ⟨rfl, rfl, rfl⟩ := trodAll_nil r0
  obtain rfl : args = #[v0] := by cases args; simp_all
  obtain ⟨rfl, rfl⟩ := trodVars_none hV
  obtain ⟨x0, s0, v00, e0⟩ := arg_insR (hval 0 22 v0 rfl rfl) h0
  have w0 : ∀ x ∈ x0, Held x := fun x hx => (v00 x hx).1
  have i0 : ∀ x ∈ x0, Go.Proofs.YtmbcjcicieiolaaDoor.nums.InR x.a := fun x hx => in_of (v00 x hx).2.1
  have j0 : ∀ x ∈ x0, Go.Proofs.YtmbcjcicieiolaaDoor.nums.InR x.b := fun x hx => in_of (v00 x hx).2.2
  simp only [List.append_nil, Rows.uptoBulkAll] at hB
  have b0 := (ins_le e0).1
  have g0 := (ins_le e0).2
  have m0 : ∀ x ∈ x0, Small x := fun x hx => ⟨by have := g0 x hx; omega, by have := (w0 x hx).2.1; unfold maxLen at this; omega, by have := (w0 x hx).2.2; unfold maxLen at this; omega⟩
  clear hA0 hA
  refine (codetells_any _ x0 W s0 hF hPw (fun x hx => ⟨m0 x hx, i0 x hx, j0 x hx⟩) (by omega)).mono fun e W' ⟨he, hb⟩ => ⟨_, he, ?_⟩
  refine law_post laidOut (fun t ht => ?_) rfl rfl Tryd.underlying4 hW' rfl rfl rfl hb
  have := List.all_eq_true.1 reads t ht
  simpa using this

theorem laid_met (os : Os) : laidMet Tryd.prog Rows.codeTellsUptoRow.laid ((laidWorld os Rows.codeTellsUptoRow.laid).forCall (fun _ _ => 0) ⟨#[], #[.slice none 0 0], []⟩).memory :=
  laidMet_of_run' 8 (by kernel_rfl) (by kernel_rfl)
theorem reads_wit (os : Os) {H : Type} (enc : TypeId × Value → H) : ∃ places, DataW.whole enc Tryd.prog ((laidWorld os Rows.codeTellsUptoRow.laid).forCall (fun _ _ => 0) ⟨#[], #[.slice none 0 0], []⟩).memory Tryd.f6.params.toList Rows.codeTellsSpec.vars false (#[.slice none 0 0] : Array Value).toList 8 = some ([.nil], [], places) :=
  ⟨[], by kernel_rfl⟩

set_option maxRecDepth 100000 in
theorem lifted (os : Os) (started : os.Started) (H : Type) (enc : TypeId × Value → H) (F : Stop.Interp) :
    ReturnsInHanded {} Tryd.checked os 6 .any ((Rows.OpenSpec.upto Rows.codeTellsSpec).preRow enc Tryd.prog Tryd.f6 Rows.codeTellsUptoRow.domain false Rows.codeTellsUptoRow.laid) (((Rows.OpenSpec.upto Rows.codeTellsSpec).at F).post enc Tryd.prog Tryd.f6 false true false false) := by
  obtain ⟨places, hx⟩ := reads_wit os enc
  refine returnsInHanded_of_row (C := Tryd.checked) (s := Rows.OpenSpec.upto Rows.codeTellsSpec) own started (by kernel_rfl) Tryd.func6
    (witness_row_at (enc := enc) (C := Tryd.checked) false (laidWorld os Rows.codeTellsUptoRow.laid) #[.slice none 0 0] rfl (by kernel_rfl) (by kernel_rfl) (by kernel_rfl)
      (OpenSpec.preRow_of_cond 8 hx (by kernel_rfl) (fun k hk => by cases hk; kernel_rfl) (by kernel_rfl) (laid_met os))) ?_
  intro W base args ds gs before hval hW _ hcond hreach hL hsh _
  rw [MakeChecks.laidMetH_plain _ _ _ (by kernel_rfl)] at hL
  exact contract H enc W base args ds gs before hval hW (forms_of hL (.tail _ (.tail _ (.tail _ (.tail _ (.head _)))))) (pow_of hL (.tail _ (.tail _ (.head _)))) (hcond _ rfl)

theorem said : Rows.CodeTellsUptoSaid :=
  OpenClaim.holds_of_cond 6 Tryd.f6 rfl rfl rfl rfl rfl rfl rfl ⟨rfl, rfl, rfl, rfl, rfl⟩ rfl rfl rfl rfl rfl (by kernel_rfl) Tryd.func6 (by kernel_rfl)
    (of_decide_eq_true (by kernel_rfl)) (by unfold Func.isWrapper; first | (rw [if_pos (by decide +kernel)]; kernel_rfl) | (rw [if_neg (by decide +kernel)]; exact ⟨rfl, rfl⟩))
    (fun os started H enc _ F => by rw [OpenClaim.pre_eq_preRow]; exact lifted os started H enc F)

theorem wants : (Tryd.f6.params.toList.all fun t => !(Tryd.pinned.checked.prog.wantsStandIn t)) = true := by kernel_rfl
theorem plain (f : FuncId) (fn : Func) (hf : Tryd.pinned.checked.prog.funcNamed Rows.codeTellsUptoRow.func = some f) (hfn : Tryd.pinned.checked.prog.funcs[f]? = some fn) :
    true = Tryd.pinned.checked.prog.looks [] ∧ ∀ (j : Nat) t, fn.params[j]? = some t → Tryd.pinned.checked.prog.wantsStandIn t = false := by
  obtain rfl : f = 6 := Option.some.inj ((show Tryd.prog.funcNamed Rows.codeTellsUptoRow.func = some 6 by kernel_rfl).symm.trans hf) |>.symm
  obtain rfl : fn = Tryd.f6 := (Option.some.inj (Tryd.func6.symm.trans hfn)).symm
  refine ⟨by kernel_rfl, fun j t ht => ?_⟩
  have h := List.all_eq_true.1 wants t (by simpa using Array.mem_of_getElem? ht)
  simpa using h

theorem proved : Rows.CodeTellsUptoCardSaid :=
  Claim7.holds_tied_plain_at .later [] _ _ _ _ said (fun _ h => by cases h) (by kernel_rfl) (fun _ h => by cases h) codeTellsUpto_row_tie rfl ⟨rfl, rfl⟩ (by kernel_rfl) rfl plain (by kernel_rfl)
end Go.Proofs.YtmbcjcicieiolaaDoor.codeTells
