/- Slices of the call's own: cut short, made with a length, appended to from a slice beside others. No condition. -/
import Derived.Test.YtmfhmikihnjkcaaDoorApart
import Derived.Test.YtmfhmikihnjkcaaDoorSet
import Derived.Deep.OwnRows
namespace Go.Proofs.YtmfhmikihnjkcaaDoor.lib
open Go.RowKit

/-- 'xs[:m]' of an own slice -/
theorem Out.cut {w0 w : World} {e : TypeId} {size : Nat} {a : Option Addr} {n c : Nat} {xs : List Value} (h : Out w0 w e size (.slice a n c) n xs) {m : Nat} (hm : m ≤ n) : Out w0 w e size (.slice a m c) m (xs.take (m * size)) := by
  refine ⟨?_, h.below⟩
  obtain ⟨hl, hx⟩ := h.own
  refine ⟨by rw [List.length_take, hl, Nat.min_eq_left (Nat.mul_le_mul_right _ hm)], ?_⟩
  rcases hx with ⟨hv, h0⟩ | ⟨g, cap, cur, hv, hb, hg, hn, hmx, hs, ht⟩
  · simp only [Value.slice.injEq] at hv
    obtain ⟨rfl, _, rfl⟩ := hv
    obtain rfl : m = 0 := by omega
    exact .inl ⟨rfl, rfl⟩
  · simp only [Value.slice.injEq] at hv
    obtain ⟨rfl, _, rfl⟩ := hv
    refine .inr ⟨g, c, cur, rfl, hb, hg, by omega, hmx, hs, ?_⟩
    rw [← ht, List.take_take, Nat.min_eq_left (Nat.mul_le_mul_right _ hm)]

theorem madeCells_one (z : Value) (n : Nat) : madeCells #[z] n = Array.replicate n z := by
  unfold madeCells
  apply Array.ext (by simp)
  intro i h1 h2
  simp [Nat.mod_one]

/-- 'make([]T, n)' at one cell an element -/
theorem Out.row (w : World) (z : Value) (e : TypeId) (n : Nat) (hm : n ≤ maxLen) : Out w (w.alloc (.cells (Array.replicate n z) e)) e 1 (.slice (some ⟨w.heap.size, 0, none⟩) n n) n (List.replicate n z) :=
  ⟨⟨by simp, .inr ⟨w.heap.size, n, _, rfl, Nat.le_refl _, heap_alloc_new w _, Nat.le_refl _, hm, by simp, by simp⟩⟩, (Below.refl _ _).alloc (Nat.le_refl _) _⟩

/-- an own slice begun at a later world is one begun at an earlier -/
theorem Out.since {w0 w1 w : World} {e : TypeId} {size : Nat} {v : Value} {n : Nat} {xs : List Value} (hb : Below w0.heap.size w0 w1) (h : Out w1 w e size v n xs) : Out w0 w e size v n xs := by
  refine ⟨⟨h.own.1, ?_⟩, hb.trans (h.below.mono hb.size)⟩
  rcases h.own.2 with h | ⟨g, cap, cur, hv, hbg, r⟩
  · exact .inl h
  · exact .inr ⟨g, cap, cur, hv, Nat.le_trans hb.size hbg, r⟩

/-- 'append(out, src...)' beside others -/
theorem wpList_append_src_at {P : Program} (w0 W : World) {ops : Array Oper} {rest : List Oper} {o : Oper} {a : Act} {Q : Exit → Act → World → Prop} (hgd : o.guard = none) (s x : Operand) (t : TypeId)
    (ho : o.op = .call { callee := .builtin .append, args := #[s, x], argTypes := #[t, t] })
    (e : TypeId) (z : Value) (size bytes m : Nat) (ht : P.underlying t = some (.slice e)) (hinfo : (P.info? e).map (fun i => (i.zero, i.size, i.bytes)) = some (some z, size, bytes))
    (hzs : z.cells.size = size) (hsz : 0 < size)
    (v : Value) (n : Nat) (xs : List Value) (hout : Out w0 W e size v n xs) (hs : a.eval s = v)
    (v2 : Value) (ys : List Value) (hsrc : Sl W v2 m size ys) (hx : a.eval x = v2) (h1 : ∀ u ∈ ys, u.oneCell' = true)
    (h63 : (n + m) * bytes ≤ 140737488355328) (h64 : n + m ≤ 140737488355328)
    (h : ∀ v' w', Out w0 w' e size v' (n + m) (xs ++ ys) → W.grownBy w' v.ownBlock → (v'.ownBlock = v.ownBlock ∨ ∃ k, v'.ownBlock = some k ∧ W.heap.size ≤ k) → wpList P ops Q rest (a.put o.dst v') w') : wpList P ops Q (o :: rest) a W := by
  obtain ⟨i, hi, hz, hsize, hby⟩ := info_parts hinfo
  have hv : ∀ k, v.ownBlock = some k → w0.heap.size ≤ k := fun k hk => (hout.own.lt k hk).1
  obtain ⟨hl, ao, c, rfl, _, hcells⟩ := hsrc
  cases ao with
  | none =>
    have hys : ys = [] := by
      rcases hcells with h | ⟨b, off, hh, _⟩
      · exact h
      · cases hh
    subst hys
    have hm : m = 0 := by
      rcases Nat.eq_zero_or_pos m with h | h
      · exact h
      · have := Nat.mul_pos h hsz; simp at hl; omega
    subst hm
    refine wpList_plain hgd fun K hK' => ?_
    have hrun := run_append_none' (P := P) (w := W) w0.heap.size t o.type e i size c ht hi v n xs hout.own
    unfold Oper.wp
    simp [execOp, ho, resolve, invoke, builtin, hs, hx, hrun, Result.andThen]
    exact hK' _ _ (by simpa using h v W (by simpa using hout) (World.grownBy.refl _ _) (.inl rfl))
  | some ad =>
    refine wpList_append_own_at _ hgd s x t ho w0.heap.size e i z size bytes ht hi hz hsize hby hzs hsz v n xs hs hout.own ad m c ys hx hl ?_ h1 (by unfold maxLen; omega) h63 hout.below.size ?_
    · intro j u hu
      rcases hcells with h | ⟨b, off, hh, hc⟩
      · subst h; simp at hu
      · obtain rfl := Option.some.inj hh
        rw [Addr.add_lit]
        exact hc j u hu
    · intro v' w' h1 h2 _ h3
      refine h v' w' ⟨h1, hout.below.grown h2 hout.below.size hv⟩ h2 ?_
      rcases h3 with h3 | h3
      · exact .inl h3
      · exact .inr ⟨_, h3, Nat.le_refl _⟩

theorem grown_set (w : World) (a : Addr) (u : Value) : w.grownBy (w.setCell a u) (some a.block) := by
  refine ⟨rfl, rfl, rfl, by simp [World.setCell], fun k _ hne => ?_⟩
  have hk : k ≠ a.block := fun h => hne (by rw [h])
  simp only [World.setCell, Array.getElem?_modify]
  rw [if_neg (fun h => hk h.symm)]

/-- an own slice behind a store into another's block -/
theorem Out.set_other {w0 w : World} {e1 e2 : TypeId} {s1 s2 : Nat} {v2 : Value} {g n1 cap n2 : Nat} {x : Value} {xs1 xs2 : List Value} (h1 : Out w0 w e1 s1 (.slice (some ⟨g, 0, none⟩) n1 cap) n1 xs1) (h2 : Out w0 w e2 s2 v2 n2 xs2) (ha : Apart (.slice (some ⟨g, 0, none⟩) n1 cap) v2) (i : Nat) : Out w0 (w.setCell ⟨g, i, none⟩ x) e2 s2 v2 n2 xs2 :=
  h1.beside h2 ha (grown_set w ⟨g, i, none⟩ x)

theorem Out.shape {w0 w : World} {e : TypeId} {v : Value} {n : Nat} {xs : List Value} (h : Out w0 w e 1 v n xs) (hn : 0 < n) : ∃ g cap, v = .slice (some ⟨g, 0, none⟩) n cap ∧ n ≤ cap ∧ ∀ k u, xs[k]? = some u → w.cell? ⟨g, k, none⟩ = some u := by
  have hs := h.sl
  rcases h.own.2 with ⟨_, h0⟩ | ⟨g, cap, cur, rfl, _, _, hc, _⟩
  · omega
  · refine ⟨g, cap, rfl, hc, fun k u hu => ?_⟩
    obtain ⟨_, a', c', he, _, hx⟩ := hs
    simp only [Value.slice.injEq] at he
    obtain ⟨rfl, _, _⟩ := he
    rcases hx with hx | ⟨b, off, hb, hx⟩
    · subst hx; cases hu
    · cases hb
      have := hx k u hu
      rwa [Nat.zero_add] at this
theorem Apart.cut {a : Option Addr} {n c m : Nat} {v : Value} (h : Apart v (.slice a n c)) : Apart v (.slice a m c) := fun k hk h2 => h k hk (by cases a <;> simp_all [Value.ownBlock])

/-- 'append(out, x, ..)' where the walk has reckoned the new block's number -/
theorem wpList_append_lit_b {P : Program} (w0 W : World) (arr : Array Value) (B : Nat) {ops : Array Oper} {rest : List Oper} {o : Oper} {a : Act} {Q : Exit → Act → World → Prop} (hgd : o.guard = none) (s x : Operand) (t : TypeId)
    (ho : o.op = .call { callee := .builtin .append, args := #[s, x], argTypes := #[t, t] })
    (e : TypeId) (z : Value) (size bytes m : Nat) (ht : P.underlying t = some (.slice e)) (hinfo : (P.info? e).map (fun i => (i.zero, i.size, i.bytes)) = some (some z, size, bytes))
    (hzs : z.cells.size = size) (hsz : 0 < size)
    (v : Value) (n : Nat) (xs : List Value) (hout : Out w0 W e size v n xs) (hs : a.eval s = v)
    (hx : a.eval x = .slice (some ⟨B, 0, none⟩) m m) (hB : W.heap.size = B) (hl : arr.size = m * size) (h1 : ∀ u ∈ arr.toList, u.oneCell' = true)
    (h63 : (n + m) * bytes ≤ 140737488355328) (h64 : n + m ≤ 140737488355328)
    (h : ∀ v' w', Out w0 w' e size v' (n + m) (xs ++ arr.toList) → W.grownBy w' v.ownBlock → (v'.ownBlock = v.ownBlock ∨ ∃ k, v'.ownBlock = some k ∧ W.heap.size ≤ k) → wpList P ops Q rest (a.put o.dst v') w') : wpList P ops Q (o :: rest) a (W.alloc (.cells arr e)) := by
  subst hB
  exact wpList_append_lit_at w0 W arr hgd s x t ho e z size bytes m ht hinfo hzs hsz v n xs hout hs hx hl h1 h63 h64 h

end Go.Proofs.YtmfhmikihnjkcaaDoor.lib
