/- code.Cut: its walk. Conditions: as ins.Parse; the bytes are bytes. NOT YET BUILT CLEAN unless NOTES.md says so. -/
import Derived.Test.YtcbefaaipggakaaDoorCut1
set_option linter.unusedSimpArgs false
set_option linter.unusedVariables false
namespace Go.Proofs.YtcbefaaipggakaaDoor.txts
open Go.RowKit Go.Proofs.YtcbefaaipggakaaDoor.lib Go.Proofs.YtcbefaaipggakaaDoor.errs Go.Proofs.YtcbefaaipggakaaDoor.names Go.Proofs.YtcbefaaipggakaaDoor.descs Go.Proofs.YtcbefaaipggakaaDoor.ins Go.Proofs.YtcbefaaipggakaaDoor.nums Go.Proofs.YtcbefaaipggakaaDoor.flows

theorem infoC : (Tryd.prog.info? 36).map (fun i => (i.zero, i.size, i.bytes)) = some (some (.agg #[.int .i64 0, .int .i64 0, .int .i64 0, .string { data := #[] }, .string { data := #[] }, .string { data := #[] }]), 6, 72) := by kernel_rfl
theorem cells_snocC (l : List I) (x : I) : cellsOf (l ++ [x]) = cellsOf l ++ x.cells := by simp [cellsOf, List.flatMap_append]
/-- what Cut answers -/
def CutBy (w : World) (b : List Int) (e : Ending) (w' : World) : Prop := match cutB b with
  | none => e = .returned (.tuple #[.slice none 0 0, .slice none 0 0, .iface 32 (.int .i64 1)]) ∧ Below w.heap.size w w'
  | some (l, q) => ∃ v1 v2, e = .returned (.tuple #[v1, v2, .nilIface]) ∧ Out w w' 36 6 v1 l.length (cellsOf l) ∧ Sl w' v2 q.length 1 (q.map (.int .u8))
theorem cutBy_none {w w' : World} {b : List Int} (h : cutB b = none) (hb : Below w.heap.size w w') : CutBy w b (.returned (.tuple #[.slice none 0 0, .slice none 0 0, .iface 32 (.int .i64 1)])) w' := by
  unfold CutBy; rw [h]; exact ⟨rfl, hb⟩
theorem cutBy_some {w w' : World} {b : List Int} {l : List I} {q : List Int} {v1 v2 : Value} (h : cutB b = some (l, q)) (ho : Out w w' 36 6 v1 l.length (cellsOf l)) (hs : Sl w' v2 q.length 1 (q.map (.int .u8))) : CutBy w b (.returned (.tuple #[v1, v2, .nilIface])) w' := by
  unfold CutBy; rw [h]; exact ⟨v1, v2, rfl, ho, hs⟩

/-- after some rounds -/
structure CutRel (w wr : World) (b : List Int) (n k : Nat) (v r : Value) (X : List I) (R : List Int) : Prop where
  kle : k ≤ n
  rest : Sl w r R.length 1 (R.map (.int .u8))
  out : Out w wr 36 6 v X.length (cellsOf X)
  says : cutB b = (cutF (n - k) R).map fun p => (X ++ p.1, p.2)
  few : X.length = k
  all : ∀ z ∈ R, 0 ≤ z ∧ z ≤ 255
  len : R.length ≤ 10000000
theorem cutRel_step {w wr w' : World} {b : List Int} {n k : Nat} {v v' r' : Value} {r : Value} {X : List I} {R : List Int} {z : Int} {R' : List Int} {x : I} (h : CutRel w wr b n k v r X (z :: R')) (hk : k < n) (hz : ¬ (R'.length : Int) < z)
    (hp : parseW (strOfNums (R'.take z.toNat)).data.toList = some x) (ho : Out w w' 36 6 v' (X.length + 1) (cellsOf X ++ x.cells)) (hs : Sl w r' (R'.drop z.toNat).length 1 ((R'.drop z.toNat).map (.int .u8))) : CutRel w w' b n (k + 1) v' r' (X ++ [x]) (R'.drop z.toNat) := by
  refine ⟨hk, hs, ?_, ?_, by simp [h.few], fun y hy => h.all y (List.mem_cons_of_mem _ (List.mem_of_mem_drop hy)), ?_⟩
  · rw [cells_snocC, List.length_append]; exact ho
  · rw [h.says, show n - k = (n - (k + 1)) + 1 by omega, cutF, if_neg hz, hp]
    simp only
    cases cutF (n - (k + 1)) (R'.drop z.toNat) with
    | none => rfl
    | some p => simp
  · have := h.len; rw [List.length_cons] at this; rw [List.length_drop]; omega
theorem cutRel_none {w wr : World} {b : List Int} {n k : Nat} {v r : Value} {X : List I} {R : List Int} (h : CutRel w wr b n k v r X R) (hn : cutF (n - k) R = none) : cutB b = none := by rw [h.says, hn]; rfl
end Go.Proofs.YtcbefaaipggakaaDoor.txts
