/- CallTells: for every handle and all arguments, Call returns what the reference says. -/
import Derived.Test.YtogpgfaojmmemaaGreatDoorCall13
import Derived.Test.YtogpgfaojmmemaaGreatDoorLawH
import Derived.Test.YtogpgfaojmmemaaGreatDoorLaw
import Derived.Test.YtogpgfaojmmemaaGreatDoorCards
import Derived.Test.YtogpgfaojmmemaaGreatDoorTie
namespace Go.Proofs.YtogpgfaojmmemaaGreatDoor.callTells
open Go.ChangeShapes Go.WideShapes Go.ChangeAt Go.RowKit Go.Proofs.YtogpgfaojmmemaaGreatDoor.lib Go.Proofs.YtogpgfaojmmemaaGreatDoor.law Go.Proofs.YtogpgfaojmmemaaGreatDoor.hands Go.Proofs.YtogpgfaojmmemaaGreatDoor.laid
open Go.ChangeMaps (open_string shut_string)

theorem own : ownKnob Tryz.prog.godebug = none := by kernel_rfl
theorem laidOut : laidOutB Tryz.prog = true := by kernel_rfl
theorem cells_int : Tryz.prog.cellsOf 3 = 1 := by kernel_rfl
theorem reads : (Tryz.f3.params.toList.all fun t => Tryz.prog.readableRec t && decide (t < Tryz.prog.types.size)) = true := by kernel_rfl
theorem in_of {n : Int} (h : (Lit.int .i64 n).wf = true) : Go.Proofs.YtogpgfaojmmemaaGreatDoor.nums.InR n := by
  rw [Lit.wf, Bool.and_eq_true, decide_eq_true_eq, decide_eq_true_eq] at h
  exact h
theorem num_goodF {B : Nat} : ∀ {F : Go.Proofs.YtogpgfaojmmemaaGreatDoor.hands.Fo}, GoodF B F → Go.Proofs.YtogpgfaojmmemaaGreatDoor.hands.NumF F
  | .nil, _ => trivial
  | .cons _ _ _ _ _ _ _ _, ⟨⟨_, _, _, h, _⟩, h5, h6⟩ => ⟨h, num_goodF h5, num_goodF h6⟩
theorem num_good {B : Nat} {x : Go.Proofs.YtogpgfaojmmemaaGreatDoor.hands.Nd} (h : GoodN B x) : Go.Proofs.YtogpgfaojmmemaaGreatDoor.hands.NumN x := ⟨h.1.2.2.2.1, num_goodF h.2⟩

set_option maxRecDepth 100000 in
theorem contract (H : Type) (enc : TypeId × Value → H) (W : World) (base : Nat) (args : Array Value) (ds gs : List (DataW H)) (before : List MemPlace)
    (hval : ∀ (j : Nat) t v, Tryz.f3.params[j]? = some t → args[j]? = some v → Value.okWide Tryz.prog W .any base t v)
    (hW : DataW.Whole enc Tryz.prog Tryz.f3.params.toList Rows.callTellsSpec.vars false W args.toList ds gs before) (hk : Rows.uptoSmall H (ds ++ gs) = true) :
    Calls Tryz.prog 3 args W fun e W' => ∃ v, e = .returned v ∧ Rows.callTellsSpec.post enc Tryz.prog Tryz.f3 false true false false W args v W' := by
  have hW' := hW
  have hB := bound hk
  obtain ⟨p, q, hA0, hV, hbef, hfz, hnd⟩ := hW
  have hA : DataW.TrodAll enc Tryz.prog W 0 (fun _ => true) true Tryz.f3.params.toList args.toList ds p := hA0
  rw [Tryz.params3] at hA hval
  obtain ⟨v0, vs0, d0, ds0, p0, q0, hargs, rfl, rfl, h0, r0⟩ := trodAll_cons hA
  obtain ⟨v1, vs1, d1, ds1, p1, q1, rfl, rfl, rfl, h1, r1⟩ := trodAll_cons r0
  obtain ⟨rfl, rfl, rfl⟩ := trodAll_nil r1
  obtain rfl : args = #[v0, v1] := by cases args; simp_all
  obtain ⟨rfl, rfl⟩ := trodVars_none hV
  obtain ⟨x0, rfl, s0, w0, e0⟩ := arg_hand (hval 0 25 v0 rfl rfl) h0
  obtain ⟨x1, s1, w1, e1⟩ := arg_ints Tryz.underlying22 Tryz.underlying3 cells_int (hval 1 22 v1 rfl rfl) h1
  simp only [List.append_nil, Rows.uptoBulkAll] at hB
  have m0 : ShortN x0 := short_good w0 (by omega)
  have b0 : cnt x0 ≤ 1048576 := by omega
  have b1 := ints_le e1
  clear hA0 hA
  obtain ⟨a1, c1, rfl⟩ := s1.val
  refine (calltells_any x0 _ x1 W s0 m0 (by omega) s1 (by omega) (num_good w0) (fun z hz => in_of (w1 z hz))).mono fun e W' ⟨he, hb⟩ => ⟨_, he, ?_⟩
  refine law_post laidOut (fun t ht => ?_) rfl rfl Tryz.underlying4 hW' rfl rfl rfl hb
  have := List.all_eq_true.1 reads t ht
  simpa using this

theorem laid_met (os : Os) : laidMet Tryz.prog Rows.callTellsUptoRow.laid ((laidWorld os Rows.callTellsUptoRow.laid).forCall (fun _ _ => 0) ⟨#[], #[.agg #[.int .i64 0, .string .empty, .int .i64 0, .slice none 0 0, .slice none 0 0], .slice none 0 0], []⟩).memory :=
  laidMet_of_run' 8 (by kernel_rfl) (by kernel_rfl)
theorem reads_wit (os : Os) {H : Type} (enc : TypeId × Value → H) : ∃ places, DataW.whole enc Tryz.prog ((laidWorld os Rows.callTellsUptoRow.laid).forCall (fun _ _ => 0) ⟨#[], #[.agg #[.int .i64 0, .string .empty, .int .i64 0, .slice none 0 0, .slice none 0 0], .slice none 0 0], []⟩).memory Tryz.f3.params.toList Rows.callTellsSpec.vars false (#[.agg #[.int .i64 0, .string .empty, .int .i64 0, .slice none 0 0, .slice none 0 0], .slice none 0 0] : Array Value).toList 8 = some ([.agg [.lit (.int .i64 0), .lit (.string []), .lit (.int .i64 0), .nil, .nil], .nil], [], places) :=
  ⟨[], by kernel_rfl⟩

set_option maxRecDepth 100000 in
theorem lifted (os : Os) (started : os.Started) (H : Type) (enc : TypeId × Value → H) (F : Stop.Interp) :
    ReturnsInHanded {} Tryz.checked os 3 .any ((Rows.OpenSpec.upto Rows.callTellsSpec).preRow enc Tryz.prog Tryz.f3 Rows.callTellsUptoRow.domain false Rows.callTellsUptoRow.laid) (((Rows.OpenSpec.upto Rows.callTellsSpec).at F).post enc Tryz.prog Tryz.f3 false true false false) := by
  obtain ⟨places, hx⟩ := reads_wit os enc
  refine returnsInHanded_of_row (C := Tryz.checked) (s := Rows.OpenSpec.upto Rows.callTellsSpec) own started (by kernel_rfl) Tryz.func3
    (witness_row_at (enc := enc) (C := Tryz.checked) false (laidWorld os Rows.callTellsUptoRow.laid) #[.agg #[.int .i64 0, .string .empty, .int .i64 0, .slice none 0 0, .slice none 0 0], .slice none 0 0] rfl (by kernel_rfl) (by kernel_rfl) (by kernel_rfl)
      (OpenSpec.preRow_of_cond 8 hx (by kernel_rfl) (fun k hk => by cases hk; kernel_rfl) (by kernel_rfl) (laid_met os))) ?_
  intro W base args ds gs before hval hW _ hcond hreach hL hsh _
  exact contract H enc W base args ds gs before hval hW (hcond _ rfl)

theorem said : Rows.CallTellsUptoSaid :=
  OpenClaim.holds_of_cond 3 Tryz.f3 rfl rfl rfl rfl rfl rfl rfl ⟨rfl, rfl, rfl, rfl, rfl⟩ rfl rfl rfl rfl rfl (by kernel_rfl) Tryz.func3 (by kernel_rfl)
    (of_decide_eq_true (by kernel_rfl)) (by unfold Func.isWrapper; first | (rw [if_pos (by decide +kernel)]; kernel_rfl) | (rw [if_neg (by decide +kernel)]; exact ⟨rfl, rfl⟩))
    (fun os started H enc _ F => by rw [OpenClaim.pre_eq_preRow]; exact lifted os started H enc F)

theorem wants : (Tryz.f3.params.toList.all fun t => !(Tryz.pinned.checked.prog.wantsStandIn t)) = true := by kernel_rfl
theorem plain (f : FuncId) (fn : Func) (hf : Tryz.pinned.checked.prog.funcNamed Rows.callTellsUptoRow.func = some f) (hfn : Tryz.pinned.checked.prog.funcs[f]? = some fn) :
    true = Tryz.pinned.checked.prog.looks [] ∧ ∀ (j : Nat) t, fn.params[j]? = some t → Tryz.pinned.checked.prog.wantsStandIn t = false := by
  obtain rfl : f = 3 := Option.some.inj ((show Tryz.prog.funcNamed Rows.callTellsUptoRow.func = some 3 by kernel_rfl).symm.trans hf) |>.symm
  obtain rfl : fn = Tryz.f3 := (Option.some.inj (Tryz.func3.symm.trans hfn)).symm
  refine ⟨by kernel_rfl, fun j t ht => ?_⟩
  have h := List.all_eq_true.1 wants t (by simpa using Array.mem_of_getElem? ht)
  simpa using h

theorem proved : Rows.CallTellsUptoCardSaid :=
  Claim7.holds_tied_plain_at .later [] _ _ _ _ said (fun _ h => by cases h) (by kernel_rfl) (fun _ h => by cases h) callTellsUpto_row_tie rfl ⟨rfl, rfl⟩ (by kernel_rfl) rfl plain (by kernel_rfl)
end Go.Proofs.YtogpgfaojmmemaaGreatDoor.callTells
