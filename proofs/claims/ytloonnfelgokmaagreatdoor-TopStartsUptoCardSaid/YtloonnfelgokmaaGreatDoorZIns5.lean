/- Instructions: the table of the kinds, ins.of, what an instruction needs. Condition: the table lies in its variable. -/
import Derived.Test.YtloonnfelgokmaaGreatDoorZInsZ
import Derived.Test.YtloonnfelgokmaaGreatDoorZRet
import Derived.Test.YtloonnfelgokmaaGreatDoorZShelf
set_option maxRecDepth 100000
set_option maxHeartbeats 16000000
set_option linter.unusedSimpArgs false
set_option linter.unusedVariables false
namespace Go.Proofs.YtloonnfelgokmaaGreatDoor.ins
open Go.RowKit lib errs names descs
def formTab : List (List UInt8 × List UInt8) := [([], []), ([110, 111, 112], []), ([112, 117, 115, 104], [65, 84]), ([110, 117, 108, 108], []), ([108, 111, 97, 100], [65]), ([115, 116, 111, 114, 101], [65]), ([112, 111, 112], []), ([100, 117, 112], []), ([115, 119, 97, 112], []), ([109, 97, 116, 104], [65, 84]), ([99, 111, 110, 118], [84]), ([111, 114, 100, 101, 114], []), ([105, 102], [65, 66]), ([105, 102, 110, 117, 108, 108], [65]), ([103, 111, 116, 111], [65]), ([110, 101, 119], [67]), ([103, 101, 116], [67, 78]), ([112, 117, 116], [67, 78]), ([110, 101, 119, 97, 114, 114, 97, 121], [84]), ([108, 101, 110, 103, 116, 104], []), ([97, 108, 111, 97, 100], [84]), ([97, 115, 116, 111, 114, 101], [84]), ([99, 97, 115, 116], [84]), ([105, 115], [84]), ([99, 97, 108, 108], [84, 67, 78]), ([99, 97, 108, 108, 115], [84, 67, 78]), ([114, 101, 116, 117, 114, 110], []), ([103, 105, 118, 101], []), ([116, 104, 114, 111, 119], [])]
def FormsAt (w : World) : Prop := ∀ k p, formTab[k]? = some p → w.cell? ⟨0, k * 2, none⟩ = some (.string (bs p.1)) ∧ w.cell? ⟨0, k * 2 + 1, none⟩ = some (.string (bs p.2))
theorem FormsAt.below {w w' : World} (h : FormsAt w) (hb : Below w.heap.size w w') : FormsAt w' := fun k p hp => by
 obtain ⟨h1, h2⟩ := h k p hp
 exact ⟨by rw [hb.cell (World.block_lt_of_cell? w _ h1)]; exact h1, by rw [hb.cell (World.block_lt_of_cell? w _ h2)]; exact h2⟩
def Box (w : World) (B : Nat) (x : I) : Prop := w.cell? ⟨B, 0, none⟩ = some (.int .i64 x.op) ∧ w.cell? ⟨B, 1, none⟩ = some (.int .i64 x.a) ∧ w.cell? ⟨B, 2, none⟩ = some (.int .i64 x.b) ∧ w.cell? ⟨B, 3, none⟩ = some (.string x.t) ∧ w.cell? ⟨B, 4, none⟩ = some (.string x.c) ∧ w.cell? ⟨B, 5, none⟩ = some (.string x.n)
theorem Box.below {w w' : World} {B : Nat} {x : I} (h : Box w B x) (hb : Below w.heap.size w w') : Box w' B x := by
 obtain ⟨h0, h1, h2, h3, h4, h5⟩ := h
 have hB : B < w.heap.size := World.block_lt_of_cell? w _ h0
 refine ⟨?_, ?_, ?_, ?_, ?_, ?_⟩ <;> rw [hb.cell hB] <;> assumption
theorem Box.new (w : World) (x : I) (t : TypeId) : Box (w.alloc (.cells #[.int .i64 x.op, .int .i64 x.a, .int .i64 x.b, .string x.t, .string x.c, .string x.n] t)) w.heap.size x := by
 refine ⟨?_, ?_, ?_, ?_, ?_, ?_⟩ <;> rw [World.cell?_alloc_at _ _ _ _ rfl] <;> rfl
theorem of_ok (k : Nat) (wd nd : List UInt8) (w : World) (hk : formTab[k]? = some (wd, nd)) (h1 : 1 ≤ k) (h2 : k ≤ 28) (hf : FormsAt w) :
  Calls Tryz.prog 111 #[.int .i64 (k : Int)] w fun e w' => e = .returned (.tuple #[.agg #[.string (bs wd), .string (bs nd)], .bool true]) ∧ Below w.heap.size w w' := by
 obtain ⟨c0, c1⟩ := (hf.below (ext_alloc w (.cells #[.string { data := #[] }, .string { data := #[] }] 180))) k _ hk
 have k1 : ¬ (k : Int) < 1 := by omega
 have k2 : ¬ (28 : Int) < (k : Int) := by omega
 have k3 : (k : Int) < 29 := by omega
 have k4 : (0 : Int) ≤ (k : Int) := by omega
 generalize bs wd = X at c0
 generalize bs nd = Y at c1
 clear hk hf h1 h2
 go_enter Tryz.func111, Tryz.ntmps111
 go_wp2
 exact bodyPost_ret (results_cell_two rfl _ w _ _ _ rfl Tryz.underlying180 rfl (by kernel_rfl)) rfl ⟨rfl, ext_alloc _ _⟩
theorem of_no (op : Int) (w : World) (h : op < 1 ∨ 28 < op) :
  Calls Tryz.prog 111 #[.int .i64 op] w fun e w' => e = .returned (.tuple #[.agg #[.string { data := #[] }, .string { data := #[] }], .bool false]) ∧ Below w.heap.size w w' := by
 by_cases h1 : op < 1
 ·clear h
  go_enter Tryz.func111, Tryz.ntmps111
  go_wp2
  exact bodyPost_ret (results_cell_two rfl _ w _ _ _ rfl Tryz.underlying180 rfl (by kernel_rfl)) rfl ⟨rfl, ext_alloc _ _⟩
 ·have h2 : 28 < op := by omega
  clear h
  go_enter Tryz.func111, Tryz.ntmps111
  go_wp2
  exact bodyPost_ret (results_cell_two rfl _ w _ _ _ rfl Tryz.underlying180 rfl (by kernel_rfl)) rfl ⟨rfl, ext_alloc _ _⟩
theorem letter_any (ch : UInt8) (b : Nat) (nd : ByteArray) (w : World) (h : w.cell? ⟨b, 1, none⟩ = some (.string nd)) :
  Calls Tryz.prog 112 #[.string ⟨#[ch]⟩, .pointer (some ⟨b, 0, none⟩)] w fun e w' => e = .returned (.bool (decide (0 ≤ Lib.indexByte nd.data.toList ch))) ∧ w = w' := by
 go_enter Tryz.func112, Tryz.ntmps112
 go_wp2_with fail
 refine (Tryz.strings_Contains_one nd ch _).mono ?_
 rintro e w1 ⟨rfl, rfl⟩
 go_wp2
 go_ret
 exact ⟨rfl, rfl⟩
end Go.Proofs.YtloonnfelgokmaaGreatDoor.ins
