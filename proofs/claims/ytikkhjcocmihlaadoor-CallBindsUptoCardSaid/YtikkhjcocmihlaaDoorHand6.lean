/- Handles: hand.subs, a map of how many subs each kind has. No condition. -/
import Derived.Test.YtikkhjcocmihlaaDoorHand3
import Derived.Test.YtikkhjcocmihlaaDoorMap
import Derived.Test.YtikkhjcocmihlaaDoorOwn
import Derived.Carry
set_option linter.unusedSimpArgs false
set_option linter.unusedVariables false
namespace Go.Proofs.YtikkhjcocmihlaaDoor.hands
open Go.RowKit Go.Proofs.YtikkhjcocmihlaaDoor.lib Go.Proofs.YtikkhjcocmihlaaDoor.errs Go.Proofs.YtikkhjcocmihlaaDoor.maps

def subsL : List (Int × Value) := [(1, .int .i64 0), (2, .int .i64 0), (3, .int .i64 0), (4, .int .i64 1), (5, .int .i64 2), (6, .int .i64 1), (7, .int .i64 2)]
/-- a kind there is -/
def isKind (k : Int) : Bool := decide (1 ≤ k ∧ k ≤ 7)
theorem subs_look {w : World} {g : Nat} (h : MapIs intKey w g subsL) (x : Int) : (Instr.lookup 65 (.map (some g)) (.int .i64 x) true).run Tryd.prog w = .ok (.tuple #[.int .i64 (subsN x), .bool (isKind x)]) w := by
  have := run_look_ok (P := Tryd.prog) (E := intKey) Tryd.underlying65 Tryd.underlying3 h x (z := .int .i64 0) (show (zeroValue 3).run Tryd.prog w = _ by kernel_rfl)
  rw [show intKey.kv x = .int .i64 x from rfl] at this
  rw [this]
  have hA : (getK subsL x).getD (.int .i64 0) = .int .i64 (subsN x) ∧ (getK subsL x).isSome = isKind x := by
    by_cases h1 : x = 1
    · subst h1; exact ⟨rfl, rfl⟩
    by_cases h2 : x = 2
    · subst h2; exact ⟨rfl, rfl⟩
    by_cases h3 : x = 3
    · subst h3; exact ⟨rfl, rfl⟩
    by_cases h4 : x = 4
    · subst h4; exact ⟨rfl, rfl⟩
    by_cases h5 : x = 5
    · subst h5; exact ⟨rfl, rfl⟩
    by_cases h6 : x = 6
    · subst h6; exact ⟨rfl, rfl⟩
    by_cases h7 : x = 7
    · subst h7; exact ⟨rfl, rfl⟩
    have hn : getK subsL x = none := by simp [subsL, getK, h1, h2, h3, h4, h5, h6, h7]
    have hk : isKind x = false := by unfold isKind; simp; omega
    have hs : subsN x = 0 := by simp [subsN, h4, h5, h6, h7]
    rw [hn, hk, hs]; exact ⟨rfl, rfl⟩
  rw [hA.1, hA.2]

theorem below_map {n : Nat} {w u u' : World} {g : Nat} (h : Below n w u) (hg : u.grownBy u' (some g)) (hn : n ≤ g) (hw : n ≤ w.heap.size) : Below n w u' :=
  h.trans ⟨hg.os, hg.tape, hg.output, hg.size, fun k hk => hg.block k (Nat.lt_of_lt_of_le hk (Nat.le_trans hw h.size)) (fun e => by have := Option.some.inj e; omega)⟩

set_option maxRecDepth 100000 in
set_option maxHeartbeats 4000000 in
theorem subs_any (w : World) : Calls Tryd.prog 30 #[] w fun e w' => e = .returned (.map (some w.heap.size)) ∧ MapIs intKey w' w.heap.size subsL ∧ Below w.heap.size w w' := by
  have hmm := @run_makeMap Tryd.prog
  have M0 : MapIs intKey (w.alloc (.map #[] 0)) w.heap.size [] := ⟨#[], 0, heap_alloc_new _ _, rfl⟩
  have B0 : Below w.heap.size w (w.alloc (.map #[] 0)) := ext_alloc _ _
  have st : ∀ (u : World) (l : List (Int × Value)) (k : Int) (v : Value), MapIs intKey u w.heap.size l → Below w.heap.size w u →
      ∃ u', (Instr.mapUpdate 65 (.map (some w.heap.size)) (.int .i64 k) v).run Tryd.prog u = .ok () u' ∧ MapIs intKey u' w.heap.size (setK l k v) ∧ Below w.heap.size w u' := by
    intro u l k v hm hb
    obtain ⟨u', h1, h2, h3⟩ := run_update (P := Tryd.prog) (E := intKey) Tryd.underlying65 Tryd.underlying3 hm k v
    exact ⟨u', h1, h2, below_map hb h3 (Nat.le_refl _) (Nat.le_refl _)⟩
  obtain ⟨u1, r1, m1, b1⟩ := st _ _ 1 (.int .i64 0) M0 B0
  obtain ⟨u2, r2, m2, b2⟩ := st _ _ 2 (.int .i64 0) m1 b1
  obtain ⟨u3, r3, m3, b3⟩ := st _ _ 3 (.int .i64 0) m2 b2
  obtain ⟨u4, r4, m4, b4⟩ := st _ _ 4 (.int .i64 1) m3 b3
  obtain ⟨u5, r5, m5, b5⟩ := st _ _ 5 (.int .i64 2) m4 b4
  obtain ⟨u6, r6, m6, b6⟩ := st _ _ 6 (.int .i64 1) m5 b5
  obtain ⟨u7, r7, m7, b7⟩ := st _ _ 7 (.int .i64 2) m6 b6
  have HM := hid m7
  have HB := hid b7
  clear m1 m2 m3 m4 m5 m6 m7 b1 b2 b3 b4 b5 b6 b7 st M0 B0
  go_enter Tryd.func30, Tryd.ntmps30
  go_wp2_with fail
  go_ret
  exact ⟨rfl, HM.out, HB.out⟩
end Go.Proofs.YtikkhjcocmihlaaDoor.hands
