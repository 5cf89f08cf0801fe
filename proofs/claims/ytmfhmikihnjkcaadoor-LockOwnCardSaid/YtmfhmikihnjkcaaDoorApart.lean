/- Slices of the call's own that grow beside one another. No condition. -/
import Derived.Test.YtmfhmikihnjkcaaDoorLib
import Derived.Maps.AppendAt
namespace Go.Proofs.YtmfhmikihnjkcaaDoor.lib
open Go.RowKit

/-- two slices do not lie in one block -/
def Apart (v1 v2 : Value) : Prop := ∀ k, v1.ownBlock = some k → v2.ownBlock ≠ some k
theorem Apart.symm {v1 v2 : Value} (h : Apart v1 v2) : Apart v2 v1 := fun k h1 h2 => h k h2 h1
theorem apart_nil (v : Value) (n c : Nat) : Apart (.slice none n c) v := fun k h => by cases h

theorem Apart.step {w0 W : World} {e : TypeId} {size : Nat} {v1 v1' v2 : Value} {n : Nat} {xs : List Value} (h : Apart v1 v2) (h2 : Out w0 W e size v2 n xs) (hat : v1'.ownBlock = v1.ownBlock ∨ ∃ k, v1'.ownBlock = some k ∧ W.heap.size ≤ k) : Apart v1' v2 := by
  intro k hk h2k
  rcases hat with ha | ⟨k', ha, hle⟩
  · exact h k (by rw [← ha]; exact hk) h2k
  · rw [hk] at ha; cases ha
    have := (h2.own.lt k h2k).2
    omega

theorem Out.beside {w0 W w' : World} {e1 e2 : TypeId} {s1 s2 : Nat} {v1 v2 : Value} {n1 n2 : Nat} {xs1 xs2 : List Value} (h1 : Out w0 W e1 s1 v1 n1 xs1) (h2 : Out w0 W e2 s2 v2 n2 xs2) (ha : Apart v1 v2) (hg : W.grownBy w' v1.ownBlock) : Out w0 w' e2 s2 v2 n2 xs2 := by
  refine ⟨h2.own.kept hg ?_, h2.below.grown hg h2.below.size (fun k hk => (h1.own.lt k hk).1)⟩
  cases hv : v2.ownBlock with
  | none => exact .inl rfl
  | some k => exact .inr (fun h => ha k h.symm hv)

/-- 'append(out, x, ..)' beside others -/
theorem wpList_append_lit_at {P : Program} (w0 W : World) (arr : Array Value) {ops : Array Oper} {rest : List Oper} {o : Oper} {a : Act} {Q : Exit → Act → World → Prop} (hgd : o.guard = none) (s x : Operand) (t : TypeId)
    (ho : o.op = .call { callee := .builtin .append, args := #[s, x], argTypes := #[t, t] })
    (e : TypeId) (z : Value) (size bytes m : Nat) (ht : P.underlying t = some (.slice e)) (hinfo : (P.info? e).map (fun i => (i.zero, i.size, i.bytes)) = some (some z, size, bytes))
    (hzs : z.cells.size = size) (hsz : 0 < size)
    (v : Value) (n : Nat) (xs : List Value) (hout : Out w0 W e size v n xs) (hs : a.eval s = v)
    (hx : a.eval x = .slice (some ⟨W.heap.size, 0, none⟩) m m) (hl : arr.size = m * size) (h1 : ∀ u ∈ arr.toList, u.oneCell' = true)
    (h63 : (n + m) * bytes ≤ 140737488355328) (h64 : n + m ≤ 140737488355328)
    (h : ∀ v' w', Out w0 w' e size v' (n + m) (xs ++ arr.toList) → W.grownBy w' v.ownBlock → (v'.ownBlock = v.ownBlock ∨ ∃ k, v'.ownBlock = some k ∧ W.heap.size ≤ k) → wpList P ops Q rest (a.put o.dst v') w') : wpList P ops Q (o :: rest) a (W.alloc (.cells arr e)) := by
  obtain ⟨i, hi, hz, hsize, hby⟩ := info_parts hinfo
  have ho1 := hout.alloc (.cells arr e)
  refine wpList_append_own_at _ hgd s x t ho w0.heap.size e i z size bytes ht hi hz hsize hby hzs hsz v n xs hs ho1.own ⟨W.heap.size, 0, none⟩ m m arr.toList hx (by simpa using hl) ?_ h1 (by unfold maxLen; omega) h63 ho1.below.size ?_
  · intro j u hu
    rw [Addr.add_lit, World.cell?_alloc_at _ _ _ _ rfl]
    simpa using hu
  · intro v' w' h1 h2 _ h3
    have hv : ∀ k, v.ownBlock = some k → w0.heap.size ≤ k := fun k hk => (hout.own.lt k hk).1
    have hv2 : ∀ k, v.ownBlock = some k → k < W.heap.size := fun k hk => (hout.own.lt k hk).2
    refine h v' w' ⟨h1, ho1.below.grown h2 ho1.below.size hv⟩ ⟨h2.os, h2.tape, h2.output, Nat.le_trans (by simp) h2.size, fun k hk hne => ?_⟩ ?_
    · rw [h2.block k (by simp; omega) hne]
      exact Below.heap_alloc _ _ _ hk
    · rcases h3 with h3 | h3
      · exact .inl h3
      · exact .inr ⟨_, h3, by simp⟩
end Go.Proofs.YtmfhmikihnjkcaaDoor.lib
