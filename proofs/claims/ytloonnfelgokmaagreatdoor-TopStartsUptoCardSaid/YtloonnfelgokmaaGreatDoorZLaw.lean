/- What every law's proof shares: behind a call that returns true and leaves what was there, the law's row is met; what the bound of the second form gives. No condition. -/
import Derived.Test.YtloonnfelgokmaaGreatDoorZLib
import Derived.Test.YtloonnfelgokmaaGreatDoorRows
import Derived.ProofKit
import Derived.OpenShut
import Derived.JoinedCond
import Derived.SliceStrings
import Derived.WalkKit
import Derived.Deep.DeepHandedRow
import Derived.LaidLaws
set_option maxRecDepth 100000
set_option maxHeartbeats 16000000
set_option linter.unusedSimpArgs false
set_option linter.unusedVariables false
namespace Go.Proofs.YtloonnfelgokmaaGreatDoor.law
open Go.ChangeShapes Go.WideShapes Go.ChangeAt Go.RowKit lib
section
variable {H : Type} {enc : TypeId × Value → H} {P : Program}
theorem trodAll_stays (hl : laidOutB P = true) {W W' : World} (hb : Below W.heap.size W W') {sp : Nat → Bool} : ∀ (ts : List TypeId), (∀ t ∈ ts, P.readableRec t = true ∧ t < P.types.size) → ∀ (vs : List Value) (ds : List (DataW H)) (ps : List MemPlace),
  (∀ p ∈ ps, p.block < W.heap.size) → (∀ p ∈ ps, sp p.block = true) → DataW.TrodAll enc P W 0 (fun _ => true) true ts vs ds ps → DataW.TrodAll enc P W' 0 sp true ts vs ds ps
 | [], _, vs, ds, ps, _, _, h => by
  obtain ⟨rfl, rfl, rfl⟩ := trodAll_nil h
  exact trodAll_mk0
 | t :: ts, hr, vs, ds, ps, hlt, hsp, h => by
  obtain ⟨v, vs', d, ds', p, q, rfl, rfl, rfl, h1, h2⟩ := trodAll_cons h
  refine trodAll_cons_mk ?_ (trodAll_stays hl hb ts (fun t' ht' => hr t' (List.mem_cons_of_mem _ ht')) vs' ds' q (fun x hx => hlt x (List.mem_append_right _ hx)) (fun x hx => hsp x (List.mem_append_right _ hx)) h2)
  obtain ⟨r1, r2⟩ := hr t (List.mem_cons_self ..)
  exact WideElems.Trod_stays hl r1 r2 h1 (fun x hx => hb.same (hlt x (List.mem_append_left _ hx))) (fun x hx => hsp x (List.mem_append_left _ hx))
theorem law_post (hl : laidOutB P = true) {f : Func} {s : ChangeSpec} {apart fresh handsOn again : Bool} {W W' : World} {args : Array Value} {ds gs : List (DataW H)} {before : List MemPlace} {T : TypeId}
  (hr : ∀ t ∈ f.params.toList, P.readableRec t = true ∧ t < P.types.size) (hvars : s.vars = []) (hrt : f.resultTypes = #[T]) (hT : P.underlying T = some .bool)
  (hW : DataW.Whole enc P f.params.toList s.vars apart W args.toList ds gs before)
  (h1 : (s.fn H (ds ++ gs)).results = [.lit (.bool true)]) (h2 : (s.fn H (ds ++ gs)).args = ds) (h3 : (s.fn H (ds ++ gs)).vars = []) (hb : Below W.heap.size W W') :
  s.post enc P f apart fresh handsOn again W args (.bool true) W' := by
 have hlt : ∀ p ∈ before, p.block < W.heap.size := fun p hp => hW.lt p hp
 have hW0 := hW
 obtain ⟨p, q, hA, hV, hbefore, hfz, hnd⟩ := hW
 have hg : gs = [] ∧ q = [] := by
  rw [hvars] at hV
  obtain ⟨rfl, rfl⟩ := trodVars_none hV
  exact ⟨rfl, rfl⟩
 obtain ⟨rfl, rfl⟩ := hg
 rw [List.append_nil] at hbefore
 subst hbefore
 have hargs : ∀ sp : Nat → Bool, (∀ x ∈ before, sp x.block = true) → DataW.TrodAll enc P W' 0 sp true f.params.toList args.toList (s.fn H (ds ++ [])).args before := fun sp hsp => by
  rw [h2]
  exact trodAll_stays hl hb _ hr _ _ _ hlt hsp hA
 have hvs : ∀ sp : Nat → Bool, DataW.TrodVars enc P W' sp s.vars (s.fn H (ds ++ [])).vars [] := fun sp => by
  rw [hvars, h3]; rfl
 have hres : ∀ (b : Nat) (sp : Nat → Bool) (hd : Bool), DataW.TrodAll enc P W' b sp hd f.resultTypes.toList ((Value.bool true).resultList f.resultTypes.size) (s.fn H (ds ++ [])).results [] := fun b sp hd => by
  rw [h1, hrt]
  exact trodAll_cons_mk (shut_bool hT _) trodAll_mk0
 have hold : ∀ x ∈ before, (fun b => decide (b < W.heap.size)) x.block = true := fun x hx => by simpa using hlt x hx
 refine ⟨ds, [], before, [], before, [], hW0, hres _ _ _, hargs _ hold, hvs _, World.keptBut_mono (fun x hx => ⟨hx, Or.inr (Or.inl hx)⟩) (hb.frame (· ∈ before)), fun _ => ?_⟩
 refine ⟨?_, _, _, ([] ++ before) ++ [], ⟨[] ++ before, [], trodAll_append (hargs _ (fun _ _ => rfl)) (hres _ _ _), hvs _, rfl, ?_, ?_⟩, ?_⟩
 ·exact ok_one (by rw [hrt]) rfl (okWide_bool_mk hT _)
 ·intro b off hp
  have hin : MemPlace.cell b off ∈ before := by simpa using hp
  rw [hb.frozen (hlt _ hin)]
  exact hfz b off (by simpa using hin)
 ·intro ha
  simpa using hnd ha
 ·intro x hx _
  simpa using hx
end
theorem one_le {H : Type} (d : DataW H) : 1 ≤ Rows.uptoBulk d := by
 cases d with
 | lit l => cases l <;> simp [Rows.uptoBulk]
 | nil => simp [Rows.uptoBulk]
 | ptr d => simp [Rows.uptoBulk]
 | slice elems spare => simp [Rows.uptoBulk]
 | agg parts => simp [Rows.uptoBulk]
 | iface t d => simp [Rows.uptoBulk]
 | map entries => simp [Rows.uptoBulk]
 | held h => simp [Rows.uptoBulk]
theorem length_le {H : Type} (l : List (DataW H)) : l.length ≤ Rows.uptoBulkAll l := by
 induction l with
 | nil => simp [Rows.uptoBulkAll]
 | cons x r ih => have := one_le x; simp only [Rows.uptoBulkAll, List.length_cons]; omega
theorem part_le {H : Type} {d : DataW H} {l : List (DataW H)} (h : d ∈ l) : Rows.uptoBulk d ≤ Rows.uptoBulkAll l := by
 induction l with
 | nil => cases h
 | cons x r ih =>
  simp only [Rows.uptoBulkAll]
  cases List.mem_cons.1 h with
  | inl e => subst e; omega
  | inr e => have := ih e; omega
theorem bound {H : Type} {l : List (DataW H)} (hk : Rows.uptoSmall H l = true) : Rows.uptoBulkAll l ≤ 1048576 := of_decide_eq_true hk
section
variable {H : Type} {enc : TypeId × Value → H} {P : Program}
end
theorem str_le {H : Type} (x : ByteArray) : x.size ≤ Rows.uptoBulk (H := H) (.lit (.string x.data.toList)) := by
 simp only [Rows.uptoBulk]
 have : x.data.toList.length = x.size := by rw [Array.length_toList]; rfl
 omega
end Go.Proofs.YtloonnfelgokmaaGreatDoor.law
namespace Go.Proofs.YtloonnfelgokmaaGreatDoor.laid
open Go.ChangeShapes Go.WideShapes Go.ChangeAt Go.RowKit
def c0 : DataW Unit → List Value
 | .lit (.int k n) => [.int k n]
 | .lit (.bool b) => [.bool b]
 | .lit (.string bs) => [.string ⟨bs.toArray⟩]
 | _ => []
def c1 : DataW Unit → List Value
 | .agg l => l.flatMap c0
 | d => c0 d
def c2 : DataW Unit → List Value
 | .agg l => l.flatMap c1
 | d => c0 d
def c3 : DataW Unit → List Value
 | .agg l => l.flatMap c2
 | d => c0 d
noncomputable def laidHeap (h : Array Obj) : List (String × DataW Unit) → Array Obj
 | [] => h
 | (n, d) :: r => laidHeap (h.modify ((Tryz.prog.globalNamed n).getD 0) fun | .cells _ t frozen => .cells (c3 d).toArray t frozen | o => o) r
noncomputable def laidWorld (os : Os) (l : List (String × DataW Unit)) : World :=
 { World.holding Tryz.prog os ⟨#[], #[], []⟩ with heap := laidHeap (World.holding Tryz.prog os ⟨#[], #[], []⟩).heap l }
end Go.Proofs.YtloonnfelgokmaaGreatDoor.laid
