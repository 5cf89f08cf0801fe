/- Slices of the call's own: cut short, made with a length, appended to from a slice beside others. No condition. -/
import Derived.Deep.OwnRows
import Derived.Test.YtloonnfelgokmaaGreatDoorZLib
import Derived.Maps.AppendAt
import Derived.Laws.Rows
set_option maxRecDepth 100000
set_option maxHeartbeats 16000000
set_option linter.unusedSimpArgs false
set_option linter.unusedVariables false
namespace Go.Proofs.YtloonnfelgokmaaGreatDoor.lib
open Go.RowKit
theorem Out.store {w0 w : World} {e : TypeId} {v : Value} {n : Nat} {xs : List Value} (h : Out w0 w e 1 v n xs) {i : Nat} (hi : i < n) :
  ∃ g cap u, v = .slice (some ⟨g, 0, none⟩) n cap ∧ w0.heap.size ≤ g ∧ w.cell? ⟨g, i, none⟩ = some u ∧ w.frozen? ⟨g, i, none⟩ = false ∧ ∀ x, Out w0 (w.setCell ⟨g, i, none⟩ x) e 1 v n (xs.set i x) := by
 rcases h.own.2 with ⟨_, h0⟩ | ⟨g, cap, cur, hv, hb, hg, hn, hm, hs, ht⟩
 ·omega
 ·have hic : i < cur.size := by omega
  refine ⟨g, cap, cur[i], hv, hb, by simp [World.cell?, hg, hic], by simp [World.frozen?, hg], fun x => ⟨⟨by rw [List.length_set]; exact h.own.1, .inr ⟨g, cap, cur.setIfInBounds i x, hv, hb, ?_, hn, hm, by simpa using hs, ?_⟩⟩, h.below.setCell hb x⟩⟩
  ·simp [World.setCell, Array.getElem?_modify, hg]
  ·rw [← ht, Array.toList_setIfInBounds, List.take_set]
def Apart (v1 v2 : Value) : Prop := ∀ k, v1.ownBlock = some k → v2.ownBlock ≠ some k
theorem Apart.symm {v1 v2 : Value} (h : Apart v1 v2) : Apart v2 v1 := fun k h1 h2 => h k h2 h1
theorem apart_nil (v : Value) (n c : Nat) : Apart (.slice none n c) v := fun k h => by cases h
theorem Out.beside {w0 W w' : World} {e1 e2 : TypeId} {s1 s2 : Nat} {v1 v2 : Value} {n1 n2 : Nat} {xs1 xs2 : List Value} (h1 : Out w0 W e1 s1 v1 n1 xs1) (h2 : Out w0 W e2 s2 v2 n2 xs2) (ha : Apart v1 v2) (hg : W.grownBy w' v1.ownBlock) : Out w0 w' e2 s2 v2 n2 xs2 := by
 refine ⟨h2.own.kept hg ?_, h2.below.grown hg h2.below.size (fun k hk => (h1.own.lt k hk).1)⟩
 cases hv : v2.ownBlock with
 | none => exact .inl rfl
 | some k => exact .inr (fun h => ha k h.symm hv)
theorem wpList_append_lit_at {P : Program} (w0 W : World) (arr : Array Value) {ops : Array Oper} {rest : List Oper} {o : Oper} {a : Act} {Q : Exit → Act → World → Prop} (hgd : o.guard = none) (s x : Operand) (t : TypeId)
  (ho : o.op = .call { callee := .builtin .append, args := #[s, x], argTypes := #[t, t] })
  (e : TypeId) (z : Value) (size bytes m : Nat) (ht : P.underlying t = some (.slice e)) (hinfo : (P.info? e).map (fun i => (i.zero, i.size, i.bytes)) = some (some z, size, bytes))
  (hzs : z.cells.size = size) (hsz : 0 < size)
  (v : Value) (n : Nat) (xs : List Value) (hout : Out w0 W e size v n xs) (hs : a.eval s = v)
  (hx : a.eval x = .slice (some ⟨W.heap.size, 0, none⟩) m m) (hl : arr.size = m * size) (h1 : ∀ u ∈ arr.toList, u.oneCell' = true)
  (h63 : (n + m) * bytes ≤ 140737488355328) (h64 : n + m ≤ 140737488355328)
  (h : ∀ v' w', Out w0 w' e size v' (n + m) (xs ++ arr.toList) → W.grownBy w' v.ownBlock → (v'.ownBlock = v.ownBlock ∨ ∃ k, v'.ownBlock = some k ∧ W.heap.size ≤ k) → wpList P ops Q rest (a.put o.dst v') w') : wpList P ops Q (o :: rest) a (W.alloc (.cells arr e)) := by
 obtain ⟨i, hi, hz, hsize, hby⟩ := info_parts hinfo
 have ho1 := hout.alloc (.cells arr e)
 refine wpList_append_own_at _ hgd s x t ho w0.heap.size e i z size bytes ht hi hz hsize hby hzs hsz v n xs hs ho1.own ⟨W.heap.size, 0, none⟩ m m arr.toList hx (by simpa using hl) ?_ h1 (by unfold maxLen; omega) h63 ho1.below.size ?_
 ·intro j u hu
  rw [Addr.add_lit, World.cell?_alloc_at _ _ _ _ rfl]
  simpa using hu
 ·intro v' w' h1 h2 _ h3
  have hv : ∀ k, v.ownBlock = some k → w0.heap.size ≤ k := fun k hk => (hout.own.lt k hk).1
  have hv2 : ∀ k, v.ownBlock = some k → k < W.heap.size := fun k hk => (hout.own.lt k hk).2
  refine h v' w' ⟨h1, ho1.below.grown h2 ho1.below.size hv⟩ ⟨h2.os, h2.tape, h2.output, Nat.le_trans (by simp) h2.size, fun k hk hne => ?_⟩ ?_
  ·rw [h2.block k (by simp; omega) hne]
   exact Below.heap_alloc _ _ _ hk
  ·rcases h3 with h3 | h3
   ·exact .inl h3
   ·exact .inr ⟨_, h3, by simp⟩
theorem Out.cut {w0 w : World} {e : TypeId} {size : Nat} {a : Option Addr} {n c : Nat} {xs : List Value} (h : Out w0 w e size (.slice a n c) n xs) {m : Nat} (hm : m ≤ n) : Out w0 w e size (.slice a m c) m (xs.take (m * size)) := by
 refine ⟨?_, h.below⟩
 obtain ⟨hl, hx⟩ := h.own
 refine ⟨by rw [List.length_take, hl, Nat.min_eq_left (Nat.mul_le_mul_right _ hm)], ?_⟩
 rcases hx with ⟨hv, h0⟩ | ⟨g, cap, cur, hv, hb, hg, hn, hmx, hs, ht⟩
 ·simp only [Value.slice.injEq] at hv
  obtain ⟨rfl, _, rfl⟩ := hv
  obtain rfl : m = 0 := by omega
  exact .inl ⟨rfl, rfl⟩
 ·simp only [Value.slice.injEq] at hv
  obtain ⟨rfl, _, rfl⟩ := hv
  refine .inr ⟨g, c, cur, rfl, hb, hg, by omega, hmx, hs, ?_⟩
  rw [← ht, List.take_take, Nat.min_eq_left (Nat.mul_le_mul_right _ hm)]
theorem Out.since {w0 w1 w : World} {e : TypeId} {size : Nat} {v : Value} {n : Nat} {xs : List Value} (hb : Below w0.heap.size w0 w1) (h : Out w1 w e size v n xs) : Out w0 w e size v n xs := by
 refine ⟨⟨h.own.1, ?_⟩, hb.trans (h.below.mono hb.size)⟩
 rcases h.own.2 with h | ⟨g, cap, cur, hv, hbg, r⟩
 ·exact .inl h
 ·exact .inr ⟨g, cap, cur, hv, Nat.le_trans hb.size hbg, r⟩
theorem wpList_append_src_at {P : Program} (w0 W : World) {ops : Array Oper} {rest : List Oper} {o : Oper} {a : Act} {Q : Exit → Act → World → Prop} (hgd : o.guard = none) (s x : Operand) (t : TypeId)
  (ho : o.op = .call { callee := .builtin .append, args := #[s, x], argTypes := #[t, t] })
  (e : TypeId) (z : Value) (size bytes m : Nat) (ht : P.underlying t = some (.slice e)) (hinfo : (P.info? e).map (fun i => (i.zero, i.size, i.bytes)) = some (some z, size, bytes))
  (hzs : z.cells.size = size) (hsz : 0 < size)
  (v : Value) (n : Nat) (xs : List Value) (hout : Out w0 W e size v n xs) (hs : a.eval s = v)
  (v2 : Value) (ys : List Value) (hsrc : Sl W v2 m size ys) (hx : a.eval x = v2) (h1 : ∀ u ∈ ys, u.oneCell' = true)
  (h63 : (n + m) * bytes ≤ 140737488355328) (h64 : n + m ≤ 140737488355328)
  (h : ∀ v' w', Out w0 w' e size v' (n + m) (xs ++ ys) → W.grownBy w' v.ownBlock → (v'.ownBlock = v.ownBlock ∨ ∃ k, v'.ownBlock = some k ∧ W.heap.size ≤ k) → wpList P ops Q rest (a.put o.dst v') w') : wpList P ops Q (o :: rest) a W := by
 obtain ⟨i, hi, hz, hsize, hby⟩ := info_parts hinfo
 have hv : ∀ k, v.ownBlock = some k → w0.heap.size ≤ k := fun k hk => (hout.own.lt k hk).1
 obtain ⟨hl, ao, c, rfl, _, hcells⟩ := hsrc
 cases ao with
 | none =>
  have hys : ys = [] := by
   rcases hcells with h | ⟨b, off, hh, _⟩
   ·exact h
   ·cases hh
  subst hys
  have hm : m = 0 := by
   rcases Nat.eq_zero_or_pos m with h | h
   ·exact h
   ·have := Nat.mul_pos h hsz; simp at hl; omega
  subst hm
  refine wpList_plain hgd fun K hK' => ?_
  have hrun := run_append_none' (P := P) (w := W) w0.heap.size t o.type e i size c ht hi v n xs hout.own
  unfold Oper.wp
  simp [execOp, ho, resolve, invoke, builtin, hs, hx, hrun, Result.andThen]
  exact hK' _ _ (by simpa using h v W (by simpa using hout) (World.grownBy.refl _ _) (.inl rfl))
 | some ad =>
  refine wpList_append_own_at _ hgd s x t ho w0.heap.size e i z size bytes ht hi hz hsize hby hzs hsz v n xs hs hout.own ad m c ys hx hl ?_ h1 (by unfold maxLen; omega) h63 hout.below.size ?_
  ·intro j u hu
   rcases hcells with h | ⟨b, off, hh, hc⟩
   ·subst h; simp at hu
   ·obtain rfl := Option.some.inj hh
    rw [Addr.add_lit]
    exact hc j u hu
  ·intro v' w' h1 h2 _ h3
   refine h v' w' ⟨h1, hout.below.grown h2 hout.below.size hv⟩ h2 ?_
   rcases h3 with h3 | h3
   ·exact .inl h3
   ·exact .inr ⟨_, h3, Nat.le_refl _⟩
theorem grown_set (w : World) (a : Addr) (u : Value) : w.grownBy (w.setCell a u) (some a.block) := by
 refine ⟨rfl, rfl, rfl, by simp [World.setCell], fun k _ hne => ?_⟩
 have hk : k ≠ a.block := fun h => hne (by rw [h])
 simp only [World.setCell, Array.getElem?_modify]
 rw [if_neg (fun h => hk h.symm)]
theorem Out.set_other {w0 w : World} {e1 e2 : TypeId} {s1 s2 : Nat} {v2 : Value} {g n1 cap n2 : Nat} {x : Value} {xs1 xs2 : List Value} (h1 : Out w0 w e1 s1 (.slice (some ⟨g, 0, none⟩) n1 cap) n1 xs1) (h2 : Out w0 w e2 s2 v2 n2 xs2) (ha : Apart (.slice (some ⟨g, 0, none⟩) n1 cap) v2) (i : Nat) : Out w0 (w.setCell ⟨g, i, none⟩ x) e2 s2 v2 n2 xs2 :=
 h1.beside h2 ha (grown_set w ⟨g, i, none⟩ x)
theorem Out.shape {w0 w : World} {e : TypeId} {v : Value} {n : Nat} {xs : List Value} (h : Out w0 w e 1 v n xs) (hn : 0 < n) : ∃ g cap, v = .slice (some ⟨g, 0, none⟩) n cap ∧ n ≤ cap ∧ ∀ k u, xs[k]? = some u → w.cell? ⟨g, k, none⟩ = some u := by
 have hs := h.sl
 rcases h.own.2 with ⟨_, h0⟩ | ⟨g, cap, cur, rfl, _, _, hc, _⟩
 ·omega
 ·refine ⟨g, cap, rfl, hc, fun k u hu => ?_⟩
  obtain ⟨_, a', c', he, _, hx⟩ := hs
  simp only [Value.slice.injEq] at he
  obtain ⟨rfl, _, _⟩ := he
  rcases hx with hx | ⟨b, off, hb, hx⟩
  ·subst hx; cases hu
  ·cases hb
   have := hx k u hu
   rwa [Nat.zero_add] at this
theorem Apart.cut {a : Option Addr} {n c m : Nat} {v : Value} (h : Apart v (.slice a n c)) : Apart v (.slice a m c) := fun k hk h2 => h k hk (by cases a <;> simp_all [Value.ownBlock])
theorem wpList_append_lit_b {P : Program} (w0 W : World) (arr : Array Value) (B : Nat) {ops : Array Oper} {rest : List Oper} {o : Oper} {a : Act} {Q : Exit → Act → World → Prop} (hgd : o.guard = none) (s x : Operand) (t : TypeId)
  (ho : o.op = .call { callee := .builtin .append, args := #[s, x], argTypes := #[t, t] })
  (e : TypeId) (z : Value) (size bytes m : Nat) (ht : P.underlying t = some (.slice e)) (hinfo : (P.info? e).map (fun i => (i.zero, i.size, i.bytes)) = some (some z, size, bytes))
  (hzs : z.cells.size = size) (hsz : 0 < size)
  (v : Value) (n : Nat) (xs : List Value) (hout : Out w0 W e size v n xs) (hs : a.eval s = v)
  (hx : a.eval x = .slice (some ⟨B, 0, none⟩) m m) (hB : W.heap.size = B) (hl : arr.size = m * size) (h1 : ∀ u ∈ arr.toList, u.oneCell' = true)
  (h63 : (n + m) * bytes ≤ 140737488355328) (h64 : n + m ≤ 140737488355328)
  (h : ∀ v' w', Out w0 w' e size v' (n + m) (xs ++ arr.toList) → W.grownBy w' v.ownBlock → (v'.ownBlock = v.ownBlock ∨ ∃ k, v'.ownBlock = some k ∧ W.heap.size ≤ k) → wpList P ops Q rest (a.put o.dst v') w') : wpList P ops Q (o :: rest) a (W.alloc (.cells arr e)) := by
 subst hB
 exact wpList_append_lit_at w0 W arr hgd s x t ho e z size bytes m ht hinfo hzs hsz v n xs hout hs hx hl h1 h63 h64 h
end Go.Proofs.YtloonnfelgokmaaGreatDoor.lib
namespace Go.Proofs.YtloonnfelgokmaaGreatDoor.keep
open Go.RowKit lib
structure Keeps (F : Nat → Prop) (w w' : World) : Prop where
 os : w'.os = w.os
 tape : w'.tape = w.tape
 output : w'.output = w.output
 size : w.heap.size ≤ w'.heap.size
 block : ∀ k, k < w.heap.size → ¬ F k → w'.heap[k]? = w.heap[k]?
theorem Keeps.refl (F : Nat → Prop) (w : World) : Keeps F w w := ⟨rfl, rfl, rfl, Nat.le_refl _, fun _ _ _ => rfl⟩
theorem Keeps.trans {F : Nat → Prop} {w w1 w2 : World} (h1 : Keeps F w w1) (h2 : Keeps F w1 w2) : Keeps F w w2 :=
 ⟨h2.os.trans h1.os, h2.tape.trans h1.tape, h2.output.trans h1.output, Nat.le_trans h1.size h2.size, fun k hk hF => (h2.block k (Nat.lt_of_lt_of_le hk h1.size) hF).trans (h1.block k hk hF)⟩
theorem Keeps.then {F G : Nat → Prop} {w w1 w2 : World} (h1 : Keeps F w w1) (h2 : Keeps G w1 w2) (hG : ∀ k, k < w.heap.size → G k → F k) : Keeps F w w2 :=
 ⟨h2.os.trans h1.os, h2.tape.trans h1.tape, h2.output.trans h1.output, Nat.le_trans h1.size h2.size, fun k hk hF => (h2.block k (Nat.lt_of_lt_of_le hk h1.size) fun hg => hF (hG k hk hg)).trans (h1.block k hk hF)⟩
theorem Keeps.mono {F G : Nat → Prop} {w w' : World} (h : Keeps F w w') (hFG : ∀ k, k < w.heap.size → F k → G k) : Keeps G w w' := ⟨h.os, h.tape, h.output, h.size, fun k hk hG => h.block k hk fun hF => hG (hFG k hk hF)⟩
theorem Keeps.grown {w w' : World} {b : Option Nat} (h : w.grownBy w' b) : Keeps (fun k => some k = b) w w' := ⟨h.os, h.tape, h.output, h.size, h.block⟩
theorem Keeps.alloc (F : Nat → Prop) (w : World) (o : Obj) : Keeps F w (w.alloc o) := ⟨rfl, rfl, rfl, by simp, fun k hk _ => Below.heap_alloc w o k hk⟩
theorem Keeps.set (w : World) (b i : Nat) (v : Value) : Keeps (fun k => k = b) w (w.setCell ⟨b, i, none⟩ v) :=
 ⟨rfl, rfl, rfl, by simp [World.setCell], fun k _ hk => heap_setCell_other w ⟨b, i, none⟩ k v hk⟩
theorem Keeps.of_below {F : Nat → Prop} {w w' : World} (h : Below w.heap.size w w') : Keeps F w w' := ⟨h.os, h.tape, h.output, h.size, fun k hk _ => h.block k hk⟩
theorem Keeps.below {F : Nat → Prop} {B : Nat} {w0 w w' : World} (h0 : Below B w0 w) (hs : B ≤ w.heap.size) (h : Keeps F w w') (hF : ∀ k, F k → B ≤ k) : Below B w0 w' :=
 ⟨h.os.trans h0.os, h.tape.trans h0.tape, h.output.trans h0.output, Nat.le_trans h0.size h.size, fun k hk => (h.block k (Nat.lt_of_lt_of_le hk hs) fun hf => by have := hF k hf; omega).trans (h0.block k hk)⟩
theorem heap_set {w : World} {b : Nat} {cs : Array Value} {t : TypeId} {fr : Nat × Nat} (h : w.heap[b]? = some (.cells cs t fr)) (i : Nat) (v : Value) : (w.setCell ⟨b, i, none⟩ v).heap[b]? = some (.cells (cs.setIfInBounds i v) t fr) := by
 simp [World.setCell, Array.getElem?_modify, h]
theorem sl_keeps {F : Nat → Prop} {w w' : World} {v : Value} {n size : Nat} {xs : List Value} (h : Sl w v n size xs) (hk : Keeps F w w') (hv : ∀ k, v.ownBlock = some k → ¬ F k) : Sl w' v n size xs := by
 obtain ⟨hl, a, c, rfl, hcap, h⟩ := h
 refine ⟨hl, a, c, rfl, hcap, ?_⟩
 rcases h with h | ⟨b, off, rfl, h⟩
 ·exact .inl h
 ·refine .inr ⟨b, off, rfl, fun j u hu => ?_⟩
  have hc := h j u hu
  rw [World.cell?_of_block (hk.block b (World.block_lt_of_cell? w _ hc) (hv b rfl))]
  exact hc
theorem owns_keeps {F : Nat → Prop} {w w' : World} {B B' : Nat} {e : TypeId} {size : Nat} {v : Value} {n : Nat} {xs : List Value} (h : w.ownsRow B e size v n xs) (hk : Keeps F w w') (hv : ∀ k, v.ownBlock = some k → ¬ F k) (hB : B' ≤ B) : w'.ownsRow B' e size v n xs := by
 refine ⟨h.1, ?_⟩
 rcases h.2 with h | ⟨g, cap, cur, rfl, hb, hg, r⟩
 ·exact .inl h
 ·refine .inr ⟨g, cap, cur, rfl, Nat.le_trans hB hb, ?_, r⟩
  have hlt : g < w.heap.size := by
   rcases Nat.lt_or_ge g w.heap.size with h' | h'
   ·exact h'
   ·rw [Array.getElem?_eq_none h'] at hg; cases hg
  rw [hk.block g hlt (hv g rfl)]; exact hg
end Go.Proofs.YtloonnfelgokmaaGreatDoor.keep
