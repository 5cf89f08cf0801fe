/- Results that lie in a cell of the call's own. No condition. -/
import Derived.Test.YtdnnnjedobknhaaDoorLib
import Derived.Laws.Rows
namespace Go.Proofs.YtdnnnjedobknhaaDoor.lib
open Go.RowKit

theorem results_cell_new {P : Program} {fn : Func} {p : Tmp} {ty : TypeId} (h : fn.results = #[.cell p ty]) (tmps : Array Value) (w : World) (cs : Array Value) (t : TypeId) (d : TypeDesc)
    (hp : tmps.getD p undef = .pointer (some ⟨w.heap.size, 0, none⟩)) (hu : P.underlying ty = some d) (hd : (match d with | .struct _ | .array _ _ => true | _ => false) = true) (hi : (P.info? ty).map (·.size) = some cs.size) :
    (results fn tmps).run P (w.alloc (.cells cs t)) = .ok (.agg cs) (w.alloc (.cells cs t)) :=
  results_cell_row h tmps _ _ t cs _ d hp (heap_alloc_new _ _) hu hd hi

theorem results_cell_two {P : Program} {fn : Func} {p q : Tmp} {ty : TypeId} (h : fn.results = #[.cell p ty, .tmp q]) (tmps : Array Value) (w : World) (cs : Array Value) (t : TypeId) (d : TypeDesc)
    (hp : tmps.getD p undef = .pointer (some ⟨w.heap.size, 0, none⟩)) (hu : P.underlying ty = some d) (hd : (match d with | .struct _ | .array _ _ => true | _ => false) = true) (hi : (P.info? ty).map (·.size) = some cs.size) :
    (results fn tmps).run P (w.alloc (.cells cs t)) = .ok (.tuple #[.agg cs, tmps.getD q undef]) (w.alloc (.cells cs t)) := by
  have hp' : tmps[p]?.getD undef = .pointer (some ⟨w.heap.size, 0, none⟩) := by simpa using hp
  simp [results, h, hp', asAddr, run_loadVar_row (w.alloc (.cells cs t)) w.heap.size t ty cs _ d (heap_alloc_new _ _) hu hd hi]
end Go.Proofs.YtdnnnjedobknhaaDoor.lib
