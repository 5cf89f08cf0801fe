/- Instructions as bytes: code.Encode. Conditions: the two tables lie in their variables; the instructions' texts are not long; their numbers are of 64 bits. -/
import Derived.Test.YtloonnfelgokmaaGreatDoorZOwn
import Derived.Lib.AppendStr
import Derived.Test.YtloonnfelgokmaaGreatDoorZFlowZ
import Derived.Test.YtloonnfelgokmaaGreatDoorZIns6
import Derived.Test.YtloonnfelgokmaaGreatDoorZShelf
import Derived.Test.YtloonnfelgokmaaGreatDoorZNum1
import Derived.WalkSmall
import Derived.Lib.ItoaLen
import Derived.Deep.LoopGhost
import Derived.Lib.SplitLaws
import Derived.Lib.AtoiAllMem
import Derived.Lib.AtoiErrMem
import Derived.Lib.IndexBytes
import Derived.Test.YtloonnfelgokmaaGreatDoorZGrow
import Derived.Laws.Rows
import Derived.BigQuiet
import Derived.Lib.AtoiAllCases
import Derived.Lib.IndexLaws
set_option maxRecDepth 100000
set_option maxHeartbeats 16000000
set_option linter.unusedSimpArgs false
set_option linter.unusedVariables false
namespace Go.Proofs.YtloonnfelgokmaaGreatDoor.txts
open Go.RowKit lib errs names descs ins nums
def partL (x : I) (ch : UInt8) : List UInt8 := if ch = 65 then Lib.itoa x.a else if ch = 66 then Lib.itoa x.b else if ch = 84 then x.t.data.toList else if ch = 67 then x.c.data.toList else x.n.data.toList
def tailL (x : I) (nd : List UInt8) : List UInt8 := nd.flatMap fun ch => 32 :: partL x ch
def textL (x : I) : List UInt8 := match formTab[x.op.toNat]? with | none => [] | some (wd, nd) => wd ++ tailL x nd
open Go.RowKit lib errs names descs ins nums flows
theorem flat_len (x : I) : ∀ nd : List UInt8, (∀ ch ∈ nd, (partL x ch).length ≤ 10000000) → (tailL x nd).length ≤ nd.length * 10000001
 | [], _ => by simp [tailL]
 | ch :: nd, h => by
  have h1 := flat_len x nd (fun c hc => h c (List.mem_cons_of_mem _ hc))
  have h2 := h ch (List.mem_cons_self ..)
  show (32 :: partL x ch ++ tailL x nd).length ≤ _
  rw [List.length_append, List.length_cons, List.length_cons]
  omega
def wordsOf : List UInt8 → List (List UInt8)
 | [] => [[]]
 | c :: r => if c = 32 then [] :: wordsOf r else match wordsOf r with
  | [] => [[c]]
  | w :: ws => (c :: w) :: ws
def numOf (l : List UInt8) : Option Int := match Lib.atoiAll l with
 | .ok v => some v
 | _ => none
def setF (x : I) (ch : UInt8) (wd : List UInt8) (n : Int) : I := if ch = 65 then { x with a := n } else if ch = 66 then { x with b := n } else if ch = 84 then { x with t := bs wd } else if ch = 67 then { x with c := bs wd } else { x with n := bs wd }
def fieldsOf : List UInt8 → List (List UInt8) → I → Option I
 | ch :: nd, wd :: ws, x => if ch = 65 ∨ ch = 66 then (match numOf wd with
   | some v => fieldsOf nd ws (setF x ch wd v)
   | none => none) else fieldsOf nd ws (setF x ch wd 0)
 | _, _, x => some x
def bareI (k : Nat) : I := ⟨(k : Int), 0, 0, bs [], bs [], bs []⟩
def tryOp (s : List UInt8) (ws : List (List UInt8)) (k : Nat) : Option (Option I) := match formTab[k]? with
 | none => none
 | some (wd, nd) => if ¬ some wd = ws.head? ∨ k = 0 ∨ ¬ ws.length = nd.length + 1 then none else match fieldsOf nd ws.tail (bareI k) with
  | none => some none
  | some x => if insFault x = 0 ∧ textL x = s then some (some x) else none
def parseL (s : List UInt8) (ws : List (List UInt8)) : List Nat → Option I
 | [] => none
 | k :: ks => match tryOp s ws k with
  | some r => r
  | none => parseL s ws ks
def parseW (s : List UInt8) : Option I := parseL s (wordsOf s) (List.range 29)
open Go.RowKit lib errs names descs ins nums flows grow
def cutF : Nat → List Int → Option (List I × List Int)
 | 0, r => some ([], r)
 | _ + 1, [] => none
 | n + 1, k :: r => if (r.length : Int) < k then none else match parseW (strOfNums (r.take k.toNat)).data.toList with
  | none => none
  | some x => (cutF n (r.drop k.toNat)).map fun p => (x :: p.1, p.2)
def cutB : List Int → Option (List I × List Int)
 | [] => none
 | n :: r => if 40 < n then none else cutF n.toNat r
theorem infoC : (Tryz.prog.info? 56).map (fun i => (i.zero, i.size, i.bytes)) = some (some (.agg #[.int .i64 0, .int .i64 0, .int .i64 0, .string { data := #[] }, .string { data := #[] }, .string { data := #[] }]), 6, 72) := by kernel_rfl
def CutBy (w : World) (b : List Int) (e : Ending) (w' : World) : Prop := match cutB b with
 | none => e = .returned (.tuple #[.slice none 0 0, .slice none 0 0, .iface 53 (.int .i64 1)]) ∧ Below w.heap.size w w'
 | some (l, q) => ∃ v1 v2, e = .returned (.tuple #[v1, v2, .nilIface]) ∧ Out w w' 56 6 v1 l.length (cellsOf l) ∧ Sl w' v2 q.length 1 (q.map (.int .u8))
end Go.Proofs.YtloonnfelgokmaaGreatDoor.txts
